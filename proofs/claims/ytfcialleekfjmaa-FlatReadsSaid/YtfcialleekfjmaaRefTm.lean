/- tenureref02: parts, Words, Check, by contracts. -/
import Derived.Test.YtfcialleekfjmaaRefSound
import Derived.Test.YtfcialleekfjmaaChkSpec
namespace Go.Proofs.Ytfcialleekfjmaa.K
open Go.RowKit
set_option linter.unusedVariables false
set_option linter.unusedSimpArgs false

def RPartsC (t : Tm) : Prop := ∀ (v : Value) (w : World), TA w t v → Calls Try.prog 64 #[v] w fun e w' => e = .returned (.bool (sndL (subs t))) ∧ Below w.heap.size w w'
set_option maxRecDepth 100000 in
set_option maxHeartbeats 4000000 in
theorem rparts_any : ∀ t : Tm, RPartsC t := by
  refine Tm.ind fun t ih v w h => ?_
  have ht := h
  obtain ⟨k0, n0, s, l, A, c, rfl, rfl, ok, hl⟩ := h.open_
  simp only [Tm.l_mk] at ih
  have hll : l.length ≤ 9223372036854775807 := by have := Nat.le_trans ok.hl ok.hc; unfold maxLen at this; exact this
  obtain ⟨w1, hw1⟩ : ∃ w1, w.alloc (.cells #[.int .i64 k0, .int .i64 n0, .string s, .slice A l.length c] 24) = w1 := ⟨_, rfl⟩
  have HR := Lib.hid (show Below w.heap.size w w1 from by rw [← hw1]; exact ballocs (Below.refl w.heap.size w) _)
  have HO := Lib.hid (rown_any _ _ w1 (ht.later HR.out))
  have hg := (show Blk w1 w.heap.size 24 #[.int .i64 k0, .int .i64 n0, .string s, .slice A l.length c] from by rw [← hw1]; exact Blk.new _ _ _)
  have HG := Lib.hid hg
  have HL := Lib.hid (hl.later HR.out)
  have HW := Lib.hid hw1
  rw [← hw1] at HO
  have HSB := Lib.hid (sndL_subs (.mk k0 n0 s l))
  clear hl h ht ok hw1 hg
  cases hs : soundB (.mk k0 n0 s l) with
  | false =>
    rw [hs] at HO HSB
    clear hs ih
    go_enter Try.func64, Try.ntmps64
    go_wp2_with (first | (go_at_call 76; refine HO.out.mono ?_; rintro e w2 ⟨rfl, hb2⟩; rw [HW.out] at hb2; have HB2 := Lib.hid hb2; clear hb2) | fail)
    go_ret
    exact ⟨ret1_b (by rw [HSB.out]; rfl), bnext HR.out HB2.out⟩
  | true =>
    rw [hs] at HO HSB
    clear hs
    go_enter Try.func64, Try.ntmps64
    go_wp2_with (first | (go_at_call 76; refine HO.out.mono ?_; rintro e w2 ⟨rfl, hb2⟩; rw [HW.out] at hb2; have HB2 := Lib.hid hb2; clear hb2) | fail)
    go_loopw [3] (fun i wr => ∃ k : Nat, k ≤ l.length ∧ i = .int .i64 (k : Int) ∧ sndL (subsL (l.take k)) = true ∧ Below w1.heap.size w1 wr) (fun i _ => l.length - (intOf i).toNat)
    case atStart => exact ⟨0, Nat.zero_le _, rfl, by simp [subsL_nil, sndL], HB2.out⟩
    case round =>
      obtain ⟨k, hk, rfl, hN, hb⟩ := hrel
      have hg := HG.out.below hb HG.out.lt
      obtain ⟨p0, p1, p2, p3, q0, q1, q2, q3⟩ := hg.four
      have HB := Lib.hid hb
      have HN := Lib.hid hN
      clear hb hg hN p0 p1 p2
      by_cases hlt : k < l.length
      · obtain ⟨u, hu⟩ : ∃ u, l[k]? = some u := ⟨_, List.getElem?_eq_getElem hlt⟩
        obtain ⟨b, o, A1, c1, rfl, hb1, d0, d1, d2, d3, hta, _⟩ := (HL.out.later HB.out).at_ hu
        have HM := Lib.hid (List.mem_of_getElem? hu)
        have HC := Lib.hid (ih u HM.out _ wr hta)
        have HU := Lib.hid (sndL_take_succ hu)
        clear hta ih hu
        cases hlu : sndL (subs u) with
        | true =>
          rw [hlu] at HC HU
          clear hlu
          go_wp2_with (first | (go_at_call 64; refine HC.out.mono ?_; rintro e w3 ⟨rfl, hb3⟩; have HB3 := Lib.hid hb3; clear hb3) | fail)
          go_roundw
          case rel => exact ⟨k + 1, by omega, by go_num, by rw [HU.out, HN.out]; rfl, bnext HB.out HB3.out⟩
          case measure => simp [intOf]; omega
        | false =>
          have HT := Lib.hid (show sndL (subsL l) = false from by
            cases hz : sndL (subsL l) with
            | false => rfl
            | true => rw [sndL_mem hz HM.out] at hlu; cases hlu)
          rw [hlu] at HC
          clear hlu
          go_wp2_with (first | (go_at_call 64; refine HC.out.mono ?_; rintro e w3 ⟨rfl, hb3⟩; have HB3 := Lib.hid hb3; clear hb3) | fail)
          go_ret
          exact ⟨ret1_b (by rw [HSB.out, Tm.l_mk, HT.out]; rfl), bnext HR.out (bnext HB.out HB3.out)⟩
      · obtain rfl : k = l.length := by omega
        rw [List.take_length] at HN
        clear ih
        go_wp2_with fail
        go_ret
        exact ⟨ret1_b (by rw [HSB.out, Tm.l_mk, HN.out]; rfl), bnext HR.out HB.out⟩

def RWordsC (t : Tm) : Prop := nodes t ≤ 1048576 → ∀ (v : Value) (w : World), TA w t v → Calls Try.prog 65 #[v] w fun e w' => e = .returned (.int .i64 (wds t)) ∧ Below w.heap.size w w'
set_option maxRecDepth 100000 in
set_option maxHeartbeats 4000000 in
theorem rwords_any : ∀ t : Tm, RWordsC t := by
  refine Tm.ind fun t ih hnn v w h => ?_
  obtain ⟨k0, n0, s, l, A, c, rfl, rfl, ok, hl⟩ := h.open_
  simp only [Tm.l_mk] at ih
  have hll : l.length ≤ 9223372036854775807 := by have := Nat.le_trans ok.hl ok.hc; unfold maxLen at this; exact this
  rw [nodes_mk] at hnn
  obtain ⟨w1, hw1⟩ : ∃ w1, w.alloc (.cells #[.int .i64 k0, .int .i64 n0, .string s, .slice A l.length c] 24) = w1 := ⟨_, rfl⟩
  have HR := Lib.hid (show Below w.heap.size w w1 from by rw [← hw1]; exact ballocs (Below.refl w.heap.size w) _)
  have HG := Lib.hid (show Blk w1 w.heap.size 24 #[.int .i64 k0, .int .i64 n0, .string s, .slice A l.length c] from by rw [← hw1]; exact Blk.new _ _ _)
  have HL := Lib.hid (hl.later HR.out)
  have HW := Lib.hid hw1
  have HE := Lib.hid (wds_mk k0 n0 s l)
  clear hl h ok hw1
  obtain ⟨z, hz⟩ : ∃ z : Int, ownN (.mk k0 n0 s l) = z := ⟨_, rfl⟩
  have hzr := ownN_range (.mk k0 n0 s l)
  rw [hz] at hzr
  obtain ⟨hz1, hz2⟩ := hzr
  have HZ := Lib.hid hz
  clear hz
  by_cases hb : k0 = 5 ∨ k0 = 7 ∨ k0 = 9
  · have HH := Lib.hid (show hasB (.mk k0 n0 s l) = true from decide_eq_true (by simp only [Tm.k_mk]; omega))
    have key : ∀ (a : Act) (wr0 : World), True := fun _ _ => trivial
    rcases hb with rfl | rfl | rfl
    all_goals
      go_enter Try.func65, Try.ntmps65
      go_wp2_with fail
      rw [HW.out]
      go_loopw [3, 4] (fun n i wr => ∃ k : Nat, k ≤ l.length ∧ i = .int .i64 (k : Int) ∧ n = .int .i64 (z + wdsL (l.take k)) ∧ Below w1.heap.size w1 wr) (fun _ i _ => l.length - (intOf i).toNat)
      case atStart => exact ⟨0, Nat.zero_le _, rfl, by rw [List.take_zero, wdsL_nil, ← HZ.out]; simp [ownN], Below.refl _ _⟩
      case round =>
        obtain ⟨k, hk, rfl, rfl, hb⟩ := hrel
        have hg := HG.out.below hb HG.out.lt
        obtain ⟨p0, p1, p2, p3, q0, q1, q2, q3⟩ := hg.four
        have HB := Lib.hid hb
        have hy1 := wdsL_range (l.take k)
        have hy2 := nodesL_take_le l k
        obtain ⟨y, hy⟩ : ∃ y, wdsL (l.take k) = y := ⟨_, rfl⟩
        rw [hy] at hy1 ⊢
        obtain ⟨hy3, hy4⟩ := hy1
        have hy5 : y ≤ 2097152 := by omega
        clear hb hg p0 p1 p2 hy4 hy2
        by_cases hlt : k < l.length
        · obtain ⟨u, hu⟩ : ∃ u, l[k]? = some u := ⟨_, List.getElem?_eq_getElem hlt⟩
          obtain ⟨b, o, A1, c1, rfl, hb1, d0, d1, d2, d3, hta, _⟩ := (HL.out.later HB.out).at_ hu
          have hm := List.mem_of_getElem? hu
          have hnu := nodesL_mem hm
          have hc := ih u hm (by omega) _ wr hta
          have hwr := wds_range u
          obtain ⟨x, hx⟩ : ∃ x, wds u = x := ⟨_, rfl⟩
          rw [hx] at hc hwr
          obtain ⟨hx1, hx2⟩ := hwr
          have hx3 : x ≤ 2097152 := by omega
          have HC := Lib.hid hc
          have HU := Lib.hid (show wdsL (l.take (k + 1)) = y + x from by rw [wdsL_take_succ hu, hy, hx])
          clear hta ih hu hm hnu hc hx hx2 hy
          go_wp2_with (first | (go_at_call 65; refine HC.out.mono ?_; rintro e w3 ⟨rfl, hb3⟩; have HB3 := Lib.hid hb3; clear hb3) | fail)
          go_roundw
          case rel => exact ⟨k + 1, by omega, by go_num, by rw [HU.out]; go_num, bnext HB.out HB3.out⟩
          case measure => simp [intOf]; omega
        · obtain rfl : k = l.length := by omega
          rw [List.take_length] at hy
          have HY := Lib.hid hy
          clear ih hy
          go_wp2_with fail
          go_ret
          exact ⟨ret1_i (by rw [HE.out, HH.out, HZ.out, HY.out]; simp), bnext HR.out HB.out⟩
  · have HH := Lib.hid (show hasB (.mk k0 n0 s l) = false from decide_eq_false (by simp only [Tm.k_mk]; omega))
    have HO := Lib.hid (show ownN (.mk k0 n0 s l) = 1 from by unfold ownN; rw [if_neg (by simp only [Tm.k_mk]; omega)])
    have b5 : (k0 == 5) = false := by simp; omega
    have b7 : (k0 == 7) = false := by simp; omega
    have b9 : (k0 == 9) = false := by simp; omega
    clear ih hb
    go_enter Try.func65, Try.ntmps65
    go_wp2_with fail
    go_ret
    exact ⟨ret1_i (by rw [HE.out, HH.out, HO.out]; simp), by rw [HW.out]; exact HR.out⟩

set_option maxRecDepth 100000 in
set_option maxHeartbeats 4000000 in
theorem rcheck_any (t : Tm) (v : Value) (w : World) (h : TA w t v) (hn : nodes t ≤ 1048576) : Calls Try.prog 48 #[v] w fun e w' => e = .returned (.int .i64 (chk t)) ∧ Below w.heap.size w w' := by
  have ht := h
  obtain ⟨k0, n0, s, l, A, c, rfl, rfl, ok, hl⟩ := h.open_
  obtain ⟨w1, hw1⟩ : ∃ w1, w.alloc (.cells #[.int .i64 k0, .int .i64 n0, .string s, .slice A l.length c] 24) = w1 := ⟨_, rfl⟩
  have HR := Lib.hid (show Below w.heap.size w w1 from by rw [← hw1]; exact ballocs (Below.refl w.heap.size w) _)
  have HO := Lib.hid (rparts_any _ _ w1 (ht.later HR.out))
  have hg := (show Blk w1 w.heap.size 24 #[.int .i64 k0, .int .i64 n0, .string s, .slice A l.length c] from by rw [← hw1]; exact Blk.new _ _ _)
  have HG := Lib.hid hg
  have HT := Lib.hid (ht.later HR.out)
  have HW := Lib.hid hw1
  have HE := Lib.hid (chk_eq (.mk k0 n0 s l))
  have HN := Lib.hid hn
  rw [← hw1] at HO
  clear hl h ht ok hw1 hg hn
  cases hs : sndL (subs (.mk k0 n0 s l)) with
  | false =>
    rw [hs] at HO HE
    clear hs
    go_enter Try.func48, Try.ntmps48
    go_wp2_with (first | (go_at_call 64; refine HO.out.mono ?_; rintro e w2 ⟨rfl, hb2⟩; rw [HW.out] at hb2; have HB2 := Lib.hid hb2; clear hb2) | fail)
    go_ret
    exact ⟨ret1_i (by rw [HE.out]; simp), bnext HR.out HB2.out⟩
  | true =>
    rw [hs] at HO HE
    clear hs
    obtain ⟨y, hy⟩ : ∃ y, wds (.mk k0 n0 s l) = y := ⟨_, rfl⟩
    have HY := Lib.hid hy
    by_cases hbig : 65536 < y
    · clear hy
      go_enter Try.func48, Try.ntmps48
      go_wp2_with (first
        | (go_at_call 64; refine HO.out.mono ?_; rintro e w2 ⟨rfl, hb2⟩; rw [HW.out] at hb2; obtain ⟨p0, p1, p2, p3, q0, q1, q2, q3⟩ := (HG.out.below hb2 HG.out.lt).four; have HWD := Lib.hid (HY.out ▸ rwords_any _ HN.out _ w2 (HT.out.later hb2)); have HB2 := Lib.hid hb2; clear hb2)
        | (go_at_call 65; refine HWD.out.mono ?_; rintro e w3 ⟨rfl, hb3⟩; have HB3 := Lib.hid hb3; clear hb3)
        | fail)
      go_ret
      exact ⟨ret1_i (by rw [HE.out, if_pos True.intro, HY.out, if_pos hbig]), bnext HR.out (bnext HB2.out HB3.out)⟩
    · clear hy
      go_enter Try.func48, Try.ntmps48
      go_wp2_with (first
        | (go_at_call 64; refine HO.out.mono ?_; rintro e w2 ⟨rfl, hb2⟩; rw [HW.out] at hb2; obtain ⟨p0, p1, p2, p3, q0, q1, q2, q3⟩ := (HG.out.below hb2 HG.out.lt).four; have HWD := Lib.hid (HY.out ▸ rwords_any _ HN.out _ w2 (HT.out.later hb2)); have HB2 := Lib.hid hb2; clear hb2)
        | (go_at_call 65; refine HWD.out.mono ?_; rintro e w3 ⟨rfl, hb3⟩; have HB3 := Lib.hid hb3; clear hb3)
        | fail)
      go_ret
      exact ⟨ret1_i (by rw [HE.out, if_pos True.intro, HY.out, if_neg (by omega)]), bnext HR.out (bnext HB2.out HB3.out)⟩
end Go.Proofs.Ytfcialleekfjmaa.K
