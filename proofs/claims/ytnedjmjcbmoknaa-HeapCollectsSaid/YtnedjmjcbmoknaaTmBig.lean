/- Parts, long, LargeTerm, LargeAll of tenurekit, by contracts. -/
import Derived.Test.YtnedjmjcbmoknaaTmCopy
namespace Go.Proofs.Ytnedjmjcbmoknaa.K
open Go.RowKit
set_option linter.unusedVariables false
set_option linter.unusedSimpArgs false

def PartsC (t : Tm) : Prop := ∀ (m : Nat) (v : Value) (w : World), m ≤ 1048576 → TA w t v → Calls Try.prog 43 #[v, .int .i64 (m : Int)] w fun e w' => e = .returned (.int .i64 ((min (nodes t) (m + 1) : Nat) : Int)) ∧ Below w.heap.size w w'
def PtRel (w : World) (l : List Tm) (m : Nat) (n i : Value) (wr : World) : Prop :=
  ∃ k N : Nat, k ≤ l.length ∧ i = .int .i64 (k : Int) ∧ n = .int .i64 (N : Int) ∧ N = min (nodesL (l.take k) + 1) (m + 1) ∧ Below w.heap.size w wr
set_option maxRecDepth 100000 in
set_option maxHeartbeats 4000000 in
theorem parts_any : ∀ t : Tm, PartsC t := by
  refine Tm.ind fun t ih m v w hm h => ?_
  obtain ⟨k0, n0, s, l, A, c, rfl, rfl, ok, hl⟩ := h.open_
  simp only [Tm.l_mk] at ih
  have hll : l.length ≤ 9223372036854775807 := by have := Nat.le_trans ok.hl ok.hc; unfold maxLen at this; exact this
  obtain ⟨w1, hw1⟩ : ∃ w1, w.alloc (.cells #[.int .i64 k0, .int .i64 n0, .string s, .slice A l.length c] 28) = w1 := ⟨_, rfl⟩
  have HR := Lib.hid (show Below w.heap.size w w1 from by rw [← hw1]; exact ballocs (Below.refl w.heap.size w) _)
  have HL := Lib.hid (show TsA w1 A l from by rw [← hw1]; exact hl.alloc _)
  have HG := Lib.hid (show Blk w1 w.heap.size 28 #[.int .i64 k0, .int .i64 n0, .string s, .slice A l.length c] from by rw [← hw1]; exact Blk.new _ _ _)
  have HW := Lib.hid hw1
  clear hl h ok hw1
  go_enter Try.func43, Try.ntmps43
  go_wp2_with fail
  rw [HW.out]
  go_loopw [5, 6] (fun n i wr => PtRel w1 l m n i wr) (fun _ i _ => l.length - (intOf i).toNat)
  case atStart => exact ⟨0, 1, Nat.zero_le _, rfl, rfl, by simp [nodesL_nil], Below.refl _ _⟩
  case round =>
    obtain ⟨k, N, hk, rfl, rfl, hN, hb⟩ := hrel
    have hle := nodesL_take_le l k
    have hg := HG.out.below hb HG.out.lt
    obtain ⟨p0, p1, p2, p3, q0, q1, q2, q3⟩ := hg.four
    have HB := Lib.hid hb
    have HN := Lib.hid hN
    have n1 : 1 ≤ N := by omega
    have n2 : N ≤ m + 1 := by omega
    clear hb hg hN p0 p1 p2
    by_cases hlt : k < l.length
    · by_cases hNm : N ≤ m
      · obtain ⟨u, hu⟩ : ∃ u, l[k]? = some u := ⟨_, List.getElem?_eq_getElem hlt⟩
        obtain ⟨b, o, A1, c1, rfl, hb1, d0, d1, d2, d3, hta, _⟩ := (HL.out.later HB.out).at_ hu
        have hms := nodesL_take_succ hu
        have hc := ih u (List.mem_of_getElem? hu) (m - N) _ wr (by omega) hta
        rw [show ((m - N : Nat) : Int) = (m : Int) - (N : Int) from by omega] at hc
        have hpos := nodes_pos u
        obtain ⟨y, hy⟩ : ∃ y : Nat, min (nodes u) (m - N + 1) = y := ⟨_, rfl⟩
        rw [hy] at hc
        have hy1 : 1 ≤ y := by omega
        have hy2 : y ≤ m + 1 := by omega
        have HS := Lib.hid (show N + y = min (nodesL (l.take (k + 1)) + 1) (m + 1) from by have := HN.out; omega)
        have HC := Lib.hid hc
        have z1 : (N : Int) ≤ (m : Int) := by omega
        clear hta hc ih hu hy hms hle
        go_wp2_with (first | (go_at_call 43; refine HC.out.mono ?_; rintro e w2 ⟨rfl, hb2⟩; have HB2 := Lib.hid hb2; clear hb2) | fail)
        go_roundw
        case rel => exact ⟨k + 1, N + y, by omega, by go_num, by go_num, HS.out, bnext HB.out HB2.out⟩
        case measure => simp [intOf]; omega
      · have z1 : ¬ (N : Int) ≤ (m : Int) := by omega
        have HS := Lib.hid (show ((min (nodes (.mk k0 n0 s l)) (m + 1) : Nat) : Int) = (N : Int) from by rw [nodes_mk]; have := HN.out; omega)
        clear ih hle
        go_wp2_with fail
        go_ret
        exact ⟨ret1_i HS.out.symm, bnext HR.out HB.out⟩
    · obtain rfl : k = l.length := by omega
      have HS := Lib.hid (show ((min (nodes (.mk k0 n0 s l)) (m + 1) : Nat) : Int) = (N : Int) from by rw [nodes_mk]; have := HN.out; rw [List.take_length] at this; omega)
      clear ih hle
      go_wp2_with fail
      go_ret
      exact ⟨ret1_i HS.out.symm, bnext HR.out HB.out⟩

def LongC (t : Tm) : Prop := ∀ (v : Value) (w : World), TA w t v → Calls Try.prog 44 #[v] w fun e w' => e = .returned (.bool (tlong t)) ∧ Below w.heap.size w w'
set_option maxRecDepth 100000 in
set_option maxHeartbeats 4000000 in
theorem long_any : ∀ t : Tm, LongC t := by
  refine Tm.ind fun t ih v w h => ?_
  obtain ⟨k0, n0, s, l, A, c, rfl, rfl, ok, hl⟩ := h.open_
  simp only [Tm.l_mk] at ih
  have hll : l.length ≤ 9223372036854775807 := by have := Nat.le_trans ok.hl ok.hc; unfold maxLen at this; exact this
  have hss : s.size ≤ 9223372036854775807 := by have := ok.ws; unfold maxLen at this; exact this
  obtain ⟨w1, hw1⟩ : ∃ w1, w.alloc (.cells #[.int .i64 k0, .int .i64 n0, .string s, .slice A l.length c] 28) = w1 := ⟨_, rfl⟩
  have HR := Lib.hid (show Below w.heap.size w w1 from by rw [← hw1]; exact ballocs (Below.refl w.heap.size w) _)
  have HL := Lib.hid (show TsA w1 A l from by rw [← hw1]; exact hl.alloc _)
  have hg := (show Blk w1 w.heap.size 28 #[.int .i64 k0, .int .i64 n0, .string s, .slice A l.length c] from by rw [← hw1]; exact Blk.new _ _ _)
  obtain ⟨p0, p1, p2, p3, q0, q1, q2, q3⟩ := hg.four
  have HG := Lib.hid hg
  have HW := Lib.hid hw1
  clear hl h ok hw1 hg
  by_cases h200 : 200 < s.size
  · have HS := Lib.hid (show tlong (.mk k0 n0 s l) = true from by rw [tlong_mk]; simp [h200])
    have hz : (200 : Int) < (s.size : Int) := by omega
    clear ih
    go_enter Try.func44, Try.ntmps44
    go_wp2_with fail
    go_ret
    exact ⟨ret1_b HS.out.symm, by rw [HW.out]; exact HR.out⟩
  · have hz : ¬ (200 : Int) < (s.size : Int) := by omega
    have HS := Lib.hid (show tlong (.mk k0 n0 s l) = tlongL l from by rw [tlong_mk]; simp [h200])
    go_enter Try.func44, Try.ntmps44
    go_wp2_with fail
    rw [HW.out]
    clear p0 p1 p2 p3
    go_loopw [3] (fun i wr => ∃ k : Nat, k ≤ l.length ∧ i = .int .i64 (k : Int) ∧ tlongL (l.take k) = false ∧ Below w1.heap.size w1 wr) (fun i _ => l.length - (intOf i).toNat)
    case atStart => exact ⟨0, Nat.zero_le _, rfl, by simp [tlongL_nil], Below.refl _ _⟩
    case round =>
      obtain ⟨k, hk, rfl, hN, hb⟩ := hrel
      have hg := HG.out.below hb HG.out.lt
      obtain ⟨p0, p1, p2, p3, q0, q1, q2, q3⟩ := hg.four
      have HB := Lib.hid hb
      have HN := Lib.hid hN
      clear hb hg hN p0 p1 p2
      by_cases hlt : k < l.length
      · obtain ⟨u, hu⟩ : ∃ u, l[k]? = some u := ⟨_, List.getElem?_eq_getElem hlt⟩
        obtain ⟨b, o, A1, c1, rfl, hb1, d0, d1, d2, d3, hta, _⟩ := (HL.out.later HB.out).at_ hu
        have HM := Lib.hid (List.mem_of_getElem? hu)
        have HC := Lib.hid (ih u HM.out _ wr hta)
        have HU := Lib.hid (tlongL_take_succ hu)
        clear hta ih hu
        cases hlu : tlong u with
        | true =>
          have HT := Lib.hid (tlongL_of HM.out hlu)
          rw [hlu] at HC
          clear hlu
          go_wp2_with (first | (go_at_call 44; refine HC.out.mono ?_; rintro e w2 ⟨rfl, hb2⟩; have HB2 := Lib.hid hb2; clear hb2) | fail)
          go_ret
          exact ⟨ret1_b (by rw [HS.out, HT.out]), bnext HR.out (bnext HB.out HB2.out)⟩
        | false =>
          rw [hlu] at HC HU
          clear hlu
          go_wp2_with (first | (go_at_call 44; refine HC.out.mono ?_; rintro e w2 ⟨rfl, hb2⟩; have HB2 := Lib.hid hb2; clear hb2) | fail)
          go_roundw
          case rel => exact ⟨k + 1, by omega, by go_num, by rw [HU.out, HN.out]; rfl, bnext HB.out HB2.out⟩
          case measure => simp [intOf]; omega
      · obtain rfl : k = l.length := by omega
        rw [List.take_length] at HN
        clear ih
        go_wp2_with fail
        go_ret
        exact ⟨ret1_b (by rw [HS.out, HN.out]), bnext HR.out HB.out⟩

end Go.Proofs.Ytnedjmjcbmoknaa.K
