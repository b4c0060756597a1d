/- term.Words, by its contract. -/
import Derived.Test.YtnedjmjcbmoknaaSound
import Derived.Deep.LoopGhost
namespace Go.Proofs.Ytnedjmjcbmoknaa.K
open Go.RowKit
set_option linter.unusedVariables false
set_option linter.unusedSimpArgs false

set_option maxRecDepth 100000 in
set_option maxHeartbeats 4000000 in
theorem has_any (t : Tm) (v : Value) (w : World) (h : TA w t v) : Calls Try.prog 61 #[v] w fun e w' => e = .returned (.bool (hasB t)) ∧ Below w.heap.size w w' := by
  obtain ⟨k, n, s, l, A, c, rfl, rfl, ok, hl⟩ := h.open_
  clear h hl ok
  have HB := Lib.hid (fun (o : Obj) => ballocs (Below.refl w.heap.size w) o)
  by_cases h : k = 7 ∨ k = 5 ∨ k = 9
  · have HE := Lib.hid (show hasB (.mk k n s l) = true from decide_eq_true h)
    rcases h with rfl | rfl | rfl
    all_goals
      go_enter Try.func61, Try.ntmps61
      go_wp2_with fail
      go_ret
      exact ⟨ret1_b HE.out.symm, HB.out _⟩
  · have HE := Lib.hid (show hasB (.mk k n s l) = false from decide_eq_false h)
    have b5 : (k == 5) = false := by simp; omega
    have b7 : (k == 7) = false := by simp; omega
    have b9 : (k == 9) = false := by simp; omega
    clear h
    go_enter Try.func61, Try.ntmps61
    go_wp2_with fail
    go_ret
    exact ⟨ret1_b HE.out.symm, HB.out _⟩
/-- The stack of Words: L is still to be counted, y has been. -/
def WdRel (w : World) (tot : Int) (gk : Nat) (n v : Value) (wr : World) : Prop :=
  ∃ (L : List Tm) (vs : List Value) (y : Int), n = .int .i64 y ∧ y + wdsL L = tot ∧ nodesL L ≤ gk ∧ nodesL L ≤ 1048576 ∧ 0 ≤ y ∧ y ≤ 4194304 ∧ TsVs wr (· < w.heap.size) L vs ∧ wr.ownsRow w.heap.size 28 4 v L.length (flat vs) ∧ Below w.heap.size w wr
theorem wmid {w wr wb w2 w3 : World} {L' l5 : List Tm} {vs : List Value} {v : Value} {A5 : Option Addr} (h1 : Below wr.heap.size wr wb) (h2 : Below wb.heap.size wb w2) (h3 : Below w2.heap.size w2 w3) (hr : wb.ownsRow w.heap.size 28 4 v L'.length (flat vs)) (hv : TsVs wb (· < w.heap.size) L' vs) (hk : TsAt wb (· < w.heap.size) A5 l5) (hz : w.heap.size ≤ wr.heap.size) :
    w3.ownsRow w.heap.size 28 4 v L'.length (flat vs) ∧ TsVs w3 (· < w.heap.size) L' vs ∧ TsAt w3 (· < w.heap.size) A5 l5 ∧ w.heap.size ≤ w3.heap.size := by
  have hb := bnext h2 h3
  have z1 := h1.size
  have z2 := hb.size
  have hF : ∀ b, b < w.heap.size → b < wb.heap.size := fun b h => by omega
  refine ⟨ownsRow_below hr hb ?_, hv.keep fun p hp => hb.cell (hF _ hp), hk.under hb hF, by omega⟩
  intro r hvr
  rcases hr.2 with ⟨rfl, _⟩ | ⟨g, cap, cur, rfl, _, hh, _⟩
  · cases hvr
  · injection hvr with hvr
    rw [← hvr]
    exact (Array.getElem?_eq_some_iff.1 hh).1
set_option maxRecDepth 100000 in
set_option maxHeartbeats 4000000 in
theorem words_any (t : Tm) (v : Value) (w : World) (h : TA w t v) (hn : nodes t ≤ 1048576) : Calls Try.prog 51 #[v] w fun e w' => e = .returned (.int .i64 (wds t)) ∧ Below w.heap.size w w' := by
  have ht := h
  obtain ⟨k0, n0, s, l, A, c, rfl, rfl, ok, hl⟩ := h.open_
  obtain ⟨i0, hi, hi0, hi1, hi2⟩ := info_parts infoT
  have hr := wds_range (.mk k0 n0 s l)
  obtain ⟨tot, htot⟩ : ∃ tot, wds (.mk k0 n0 s l) = tot := ⟨_, rfl⟩
  rw [htot] at hr
  have hT1 : tot ≤ 2097152 := by omega
  have HTOT := Lib.hid htot; have HN := Lib.hid hn; have HT := Lib.hid ht
  rw [htot]
  clear h hl ok ht hr htot hn
  go_enter Try.func51, Try.ntmps51
  go_wp2_with fail
  go_loopg [3, 5] 1048576 (fun gk n v wr => WdRel w tot gk n v wr)
  case atStart =>
    have hs2 := HT.out
    obtain ⟨tt, htt⟩ : ∃ tt, Tm.mk k0 n0 s l = tt := ⟨_, rfl⟩
    refine ⟨[.mk k0 n0 s l], [.agg #[.int .i64 k0, .int .i64 n0, .string s, .slice A l.length c]], 0, rfl, ?_, ?_, ?_, by omega, by omega, ?_, ?_, ?_⟩
    · rw [wdsL_cons, wdsL_nil, HTOT.out]; omega
    · rw [nodesL_cons, nodesL_nil]; have := HN.out; omega
    · rw [nodesL_cons, nodesL_nil]; have := HN.out; omega
    · have h1 := TAt.alloc HT.out (fun b h => h) (.cells #[.int .i64 k0, .int .i64 n0, .string s, .slice A l.length c] 28)
      exact TsVs.one (h1.alloc (fun b h => by rw [World.size_alloc]; have : b < w.heap.size := h; omega) _)
    · have hq := World.ownsRow_lit (base := w.heap.size) (e := 28) (size := 4) _ #[.int .i64 k0, .int .i64 n0, .string s, .slice A l.length c] 1 (by have := World.size_alloc w (.cells #[.int .i64 k0, .int .i64 n0, .string s, .slice A l.length c] 28); exact Nat.le_trans (Nat.le_succ _) (Nat.le_of_eq this.symm)) (by simp [maxLen]) rfl
      rw [World.size_alloc] at hq
      exact hq
    · exact ballocs (ballocs (Below.refl _ _) _) _
  case round =>
    obtain ⟨L, vs, y, rfl, hy, hgk, hn1, hy0, hy1, hvs, hrow, hb⟩ := hrel
    obtain ⟨A3, c3, rfl, hc3, hm3⟩ := ownsRow_form hrow
    have HB := Lib.hid hb
    rcases List.eq_nil_or_concat L with rfl | ⟨L', x, rfl⟩
    · have HY := Lib.hid (show y = tot from by rw [wdsL_nil] at hy; omega)
      clear hvs hrow hb hy
      go_wp2_with fail
      go_ret
      exact ⟨ret1_i HY.out, HB.out⟩
    · rw [List.concat_eq_append] at hrow hvs hc3 hy hgk hn1
      have hlen : (L'.concat x).length = L'.length + 1 := by simp
      have hlen' : (L' ++ [x]).length = L'.length + 1 := by simp
      rw [hlen]
      rw [hlen'] at hrow hc3
      obtain ⟨g, cap, he, hBg, hgl⟩ := hrow.form (by omega)
      injection he with e1 e2 e3
      subst e1 e3
      clear e2
      obtain ⟨vx, hvx, htx, hcx⟩ := hvs.at_ (i := L'.length) (u := x) (by simp)
      have hcell := hrow.cells (g := g) rfl
      obtain ⟨A5, c5, rfl, ok5, hl5⟩ := htx.inv
      have r0 := hcell (L'.length * 4 + 0) _ ((hcx 0 (by omega)).trans rfl)
      have r1 := hcell (L'.length * 4 + 1) _ ((hcx 1 (by omega)).trans rfl)
      have r2 := hcell (L'.length * 4 + 2) _ ((hcx 2 (by omega)).trans rfl)
      have r3 := hcell (L'.length * 4 + 3) _ ((hcx 3 (by omega)).trans rfl)
      simp only [add_plain', Nat.zero_add, Nat.add_zero] at r0 r1 r2 r3
      have hp1 : nodesL (L' ++ x.l) + 1 = nodesL (L' ++ [x]) := by
        rw [nodesL_append, nodesL_append, nodesL_cons, nodesL_nil, nodes_eq x]; omega
      have hp2 := nodesL_len (L' ++ x.l)
      rw [List.length_append] at hp2
      have hLl : L'.length ≤ 1048576 := by omega
      have hxl : x.l.length ≤ 1048576 := by omega
      have hor := ownN_range x
      have hw1 : y + (wdsL L' + wds x) = tot := by rw [wdsL_append, wdsL_cons, wdsL_nil] at hy; omega
      have hw2 := wdsL_range L'
      have hw3 := wds_range x
      have hw4 := wdsL_range x.l
      have hwx := wds_eq x
      obtain ⟨z, hz⟩ : ∃ z, ownN x = z := ⟨_, rfl⟩
      rw [hz] at hor hwx
      obtain ⟨hz1, hz2⟩ := hor
      have hy9 : y + z ≤ 2097152 := by
        have : z ≤ wds x := by rw [hwx]; split <;> omega
        omega
      have HTX := Lib.hid htx
      have hL : nodesL (L' ++ [x]) = nodesL L' + nodes x := by rw [nodesL_append, nodesL_cons, nodesL_nil]; omega
      have hnx := nodes_pos x
      obtain ⟨wb, hwb⟩ : ∃ wb, wr.alloc (.cells #[.int .i64 x.k, .int .i64 x.n, .string x.s, .slice A5 x.l.length c5] 28) = wb := ⟨_, rfl⟩
      have hbb : Below wr.heap.size wr wb := by rw [← hwb]; exact (Below.refl _ _).alloc (Nat.le_refl _) _
      have hF : ∀ b, b < w.heap.size → b < wr.heap.size := fun b h => Nat.lt_of_lt_of_le h hb.size
      have hXW : Blk wb wr.heap.size 28 #[.int .i64 x.k, .int .i64 x.n, .string x.s, .slice A5 x.l.length c5] := by rw [← hwb]; exact Blk.new _ _ _
      have HX := Lib.hid hXW
      have hTA : TA wb x (tv x A5 c5) := ((htx.mono hF).under hbb (fun _ h => h)).mono (fun b h => Nat.lt_of_lt_of_le h hbb.size)
      have hOw := own_any x _ wb hTA
      rw [hz] at hOw
      have hHs := fun w' (h : Below wb.heap.size wb w') => has_any x _ w' (hTA.later h)
      have htk := hvs.take L'.length
      rw [List.take_left] at htk
      have hfl := hvs.flat_take L'.length
      have hr2 := ownsRow_less hrow
      rw [← hfl] at hr2
      have HR := Lib.hid (show wb.ownsRow w.heap.size 28 4 (.slice (some ⟨g, 0, none⟩) L'.length c3) L'.length (flat (vs.take L'.length)) from by rw [← hwb]; exact hr2.alloc _)
      have HV := Lib.hid (htk.keep fun p hp => (hbb.cell (hF _ hp)))
      have HK := Lib.hid (hl5.under hbb hF)
      have HBB := Lib.hid hbb
      have HWB := Lib.hid hwb
      clear hvs hrow hb hwb hbb hXW hTA htk hfl hr2 hvx htx hcx hcell hl5 hF hy hw2 hw3 hw4 hz ok5
      rw [← HWB.out] at hOw
      have HO := Lib.hid hOw
      clear hOw
      by_cases hh : hasB x = true
      · rw [hh] at hHs
        have HHs := Lib.hid hHs
        rw [if_pos hh] at hwx
        clear hh hHs
        go_wp2_with (first
          | (go_at_call 47; refine HO.out.mono ?_; rintro e w2 ⟨rfl, hb2⟩; rw [HWB.out] at hb2; have HB2 := Lib.hid hb2; obtain ⟨y0, y1, y2, y3, _, _, _, _⟩ := (HX.out.below hb2 HX.out.lt).four; clear hb2)
          | (go_at_call 61; refine (HHs.out _ HB2.out).mono ?_; rintro e w3 ⟨rfl, hb3⟩; have HB3 := Lib.hid hb3; have HM := Lib.hid (wmid HBB.out HB2.out hb3 HR.out HV.out HK.out HB.out.size); obtain ⟨z0, z1, z2, z3, _, _, _, _⟩ := ((HX.out.below HB2.out HX.out.lt).below hb3 (HX.out.below HB2.out HX.out.lt).lt).four; clear hb3)
          | (at_builtin; obtain ⟨ns, hns, hrd⟩ := HM.out.2.2.1.reads (fun b h => h); refine wpList_append_any _ rfl (.tmp 30) (.tmp 32) _ rfl w.heap.size 28 i0 _ 4 56 Try.underlying26 hi hi0 hi1 hi2 rfl (by omega) (.slice (some ⟨g, 0, none⟩) L'.length c3) L'.length _ rfl HM.out.1 w.heap.size A5 x.l.length c5 (flat ns) rfl hrd hns.one_cell (by unfold maxLen; omega) (by omega) HM.out.2.2.2 ?_
             intro v4 w4 hown4 hg4 hat4
             have H4 := Lib.hid (And.intro hown4 (And.intro hg4 hns)); clear hown4 hg4 hat4 hns hrd)
          | fail)
        go_roundg (nodesL (L' ++ x.l))
        case rel =>
          obtain ⟨ho4, hg4, hns4⟩ := H4.out
          have hsz := HM.out.2.2.2
          have hbw : Below w.heap.size w3 w4 := Below.grown (Below.refl _ _) hg4 hsz (fun r hr => by injection hr with hr; rw [← hr]; exact hBg)
          have hlx : L'.length + x.l.length = (L' ++ x.l).length := by rw [List.length_append]
          have hwl := wdsL_append L' x.l
          have hwr := wdsL_range (L' ++ x.l)
          have h0 : TsVs w3 (· < w.heap.size) (L' ++ x.l) _ := HM.out.2.1.append hns4
          refine ⟨L' ++ x.l, _, y + z, by go_num, by rw [hwl]; omega, by omega, by omega, by omega, by omega, h0.keep fun p hp => (hbw.cell hp), ?_, HB.out.trans ?_⟩
          · rw [flat_append, ← hlx]; exact ho4
          · exact ((bnext HBB.out (bnext HB2.out HB3.out)).mono HB.out.size).trans hbw
        case measure => omega
      · rw [show hasB x = false from by simpa using hh] at hHs
        have HHs := Lib.hid hHs
        rw [if_neg hh] at hwx
        clear hh hHs
        go_wp2_with (first
          | (go_at_call 47; refine HO.out.mono ?_; rintro e w2 ⟨rfl, hb2⟩; rw [HWB.out] at hb2; have HB2 := Lib.hid hb2; obtain ⟨y0, y1, y2, y3, _, _, _, _⟩ := (HX.out.below hb2 HX.out.lt).four; clear hb2)
          | (go_at_call 61; refine (HHs.out _ HB2.out).mono ?_; rintro e w3 ⟨rfl, hb3⟩; have HB3 := Lib.hid hb3; clear hb3)
          | fail)
        go_roundg (nodesL L')
        case rel =>
          have hm := wmid HBB.out HB2.out HB3.out HR.out HV.out HK.out HB.out.size
          exact ⟨L', _, y + z, by go_num, by omega, by omega, by omega, by omega, by omega, hm.2.1, hm.1, bnext HB.out (bnext HBB.out (bnext HB2.out HB3.out))⟩
        case measure => omega
end Go.Proofs.Ytnedjmjcbmoknaa.K
