/- size, Big of tenurekit, large of the law: terms that are gone through are small. By contracts. -/
import Derived.Test.YtlaplakaifmpeaaPatKit
namespace Go.Proofs.Ytlaplakaifmpeaa.Pt
open Go.RowKit K Go.Shelf
set_option linter.unusedVariables false
set_option linter.unusedSimpArgs false

def SizeC (t : Tm) : Prop := ∀ (m : Nat) (v : Value) (w : World), 1 ≤ m → m ≤ 1000 → TA w t v →
  Calls Try.prog 60 #[v, .int .i64 (m : Int)] w fun e w' => (∃ n : Nat, e = .returned (.int .i64 (n : Int)) ∧ 1 ≤ n ∧ n ≤ m ∧ (n < m → nodes t = n)) ∧ Below w.heap.size w w'
set_option maxRecDepth 100000 in
set_option maxHeartbeats 8000000 in
theorem size_any : ∀ t : Tm, SizeC t := by
  refine Tm.ind fun t ih m v w hm1 hm2 h => ?_
  obtain ⟨k, n, s, l, A, c, rfl, rfl, ok, hl⟩ := h.open_
  simp only [Tm.l_mk] at ih
  have h1 := Nat.le_trans ok.hl ok.hc
  have h2 : s.size ≤ maxLen := ok.ws
  unfold maxLen at h1 h2
  simp only [Tm.l_mk] at h1
  obtain ⟨W1, hW1⟩ : ∃ W1, w.alloc (.cells #[.int .i64 k, .int .i64 n, .string s, .slice A l.length c] 24) = W1 := ⟨_, rfl⟩
  have hb1 : Below w.heap.size w W1 := by rw [← hW1]; exact ballocs (Below.refl _ _) _
  have hg : Blk W1 w.heap.size 24 #[.int .i64 k, .int .i64 n, .string s, .slice A l.length c] := by rw [← hW1]; exact Blk.new _ _ _
  have HB1 := Lib.hid hb1
  have HG := Lib.hid hg
  have HW1 := Lib.hid hW1
  have HL := Lib.hid hl
  have HIH := Lib.hid ih
  clear h ok hl hb1 hg hW1 ih
  by_cases hs : 100 < s.size
  · go_enter Try.func60, Try.ntmps60
    go_wp2_with fail
    rw [HW1.out]
    go_ret
    exact ⟨⟨m, rfl, hm1, Nat.le_refl _, fun h => absurd h (Nat.lt_irrefl _)⟩, HB1.out⟩
  by_cases hll : m < l.length
  · go_enter Try.func60, Try.ntmps60
    go_wp2_with fail
    rw [HW1.out]
    go_ret
    exact ⟨⟨m, rfl, hm1, Nat.le_refl _, fun h => absurd h (Nat.lt_irrefl _)⟩, HB1.out⟩
  go_enter Try.func60, Try.ntmps60
  go_wp2_with fail
  rw [HW1.out]
  go_loopw [5, 6] (fun x y wr => ∃ (i q : Nat), i ≤ l.length ∧ x = .int .i64 (q : Int) ∧ y = .int .i64 (i : Int) ∧ 1 ≤ q ∧ q ≤ m ∧ (q < m → nodesL (l.take i) + 1 = q) ∧ Below W1.heap.size W1 wr) (fun _ y _ => l.length - (intOf y).toNat)
  case atStart => exact ⟨0, 1, Nat.zero_le _, rfl, rfl, Nat.le_refl _, hm1, fun _ => by rw [List.take_zero, nodesL_nil], Below.refl _ _⟩
  case round =>
    obtain ⟨i, q, hi, rfl, rfl, hq1, hq2, hqn, hb⟩ := hrel
    have HB := Lib.hid hb
    have HQN := Lib.hid hqn
    obtain ⟨p0, p1, p2, p3, _, _, _, _⟩ := (HG.out.below hb HG.out.lt).four
    have HB2 := Lib.hid (bnext HB1.out hb)
    clear hb hqn
    by_cases hlt : i < l.length
    · by_cases hqm : q < m
      · obtain ⟨u, hu⟩ : ∃ u, l[i]? = some u := ⟨_, List.getElem?_eq_getElem hlt⟩
        obtain ⟨b, o, A1, c1, rfl, hb1, d0, d1, d2, d3, hta, _⟩ := (HL.out.later HB2.out).at_ hu
        obtain ⟨r, hr⟩ : ∃ r, m - q = r := ⟨_, rfl⟩
        have hmr : (m : Int) - (q : Int) = (r : Int) := by omega
        have hr1 : 1 ≤ r := by omega
        have hr2 : r ≤ m - 1 := by omega
        have HC := Lib.hid (HIH.out u (List.mem_of_getElem? hu) r _ wr hr1 (by omega) hta)
        have HTK := Lib.hid (nodesL_take_succ hu)
        have HR := Lib.hid hr
        clear hta hu hr
        go_wp2_with fail
        refine HC.out.mono ?_
        rintro e w2 ⟨⟨z, rfl, hz1, hz2, hzn⟩, hb2⟩
        have HBN := Lib.hid (bnext HB.out hb2)
        have HZN := Lib.hid hzn
        clear hb2 hzn
        go_wp2_with fail
        go_roundw
        case rel => exact ⟨i + 1, q + z, by omega, by go_num, by go_num, by omega, by have := HR.out; omega, fun h => by have h1 := HR.out; have h2 := HQN.out hqm; have h3 := HZN.out (by omega); have h4 := HTK.out; omega, HBN.out⟩
        case measure => simp [intOf]; omega
      · have hqe : q = m := by omega
        subst hqe
        go_wp2_with fail
        go_ret
        exact ⟨⟨q, rfl, hq1, Nat.le_refl _, fun h => absurd h (Nat.lt_irrefl _)⟩, HB2.out⟩
    · obtain rfl : i = l.length := by omega
      have HE := Lib.hid (show q < m → nodes (.mk k n s l) = q from fun h => by have := HQN.out h; rw [List.take_length] at this; rw [nodes_mk]; exact this)
      go_wp2_with fail
      go_ret
      exact ⟨⟨q, rfl, hq1, hq2, HE.out⟩, HB2.out⟩
set_option maxRecDepth 100000 in
set_option maxHeartbeats 8000000 in
theorem big_any (t : Tm) (v : Value) (w : World) (h : TA w t v) : Calls Try.prog 38 #[v, .int .i64 300] w fun e w' => (∃ r : Bool, e = .returned (.bool r) ∧ (r = false → nodes t ≤ 300)) ∧ Below w.heap.size w w' := by
  have hh := h
  obtain ⟨k, n, s, l, A, c, rfl, rfl, ok, hl⟩ := h.open_
  have hb1 : Below w.heap.size w (w.alloc (.cells #[.int .i64 k, .int .i64 n, .string s, .slice A l.length c] 24)) := ballocs (Below.refl _ _) _
  have HC := Lib.hid (size_any _ 301 _ _ (by omega) (by omega) (hh.later hb1))
  have HB1 := Lib.hid hb1
  clear h hh ok hl hb1
  go_enter Try.func38, Try.ntmps38
  go_wp2_with fail
  refine HC.out.mono ?_
  rintro e w2 ⟨⟨z, rfl, hz1, hz2, hzn⟩, hb2⟩
  have HB2 := Lib.hid (bnext HB1.out hb2)
  have HZN := Lib.hid hzn
  clear hb2 hzn
  go_wp2_with fail
  go_ret
  refine ⟨⟨_, rfl, fun hz => ?_⟩, HB2.out⟩
  simp only [decide_eq_false_iff_not] at hz
  have h2 := HZN.out (by omega)
  omega
set_option maxRecDepth 100000 in
set_option maxHeartbeats 8000000 in
theorem large_any (l : List Tm) (bs : List Bnd) (A A' : Option Addr) (c c' : Nat) (w : World) (h : TsA w A l) (h' : BsAt w (· < w.heap.size) A' bs) (hl : l.length ≤ maxLen) (hl' : bs.length ≤ maxLen) :
    Calls Try.prog 9 #[.slice A l.length c, .slice A' bs.length c'] w fun e w' => (∃ r : Bool, e = .returned (.bool r) ∧ (r = false → (∀ t ∈ l, nodes t ≤ 300) ∧ (∀ q ∈ bs, nodes q.2 ≤ 300) ∧ bs.length ≤ 100)) ∧ Below w.heap.size w w' := by
  unfold maxLen at hl hl'
  have HTS := Lib.hid h
  have HBS := Lib.hid h'
  clear h h'
  go_enter Try.func9, Try.ntmps9
  go_wp2_with fail
  go_loopw [5] (fun x wr => ∃ i : Nat, i ≤ l.length ∧ x = .int .i64 (i : Int) ∧ (∀ t ∈ l.take i, nodes t ≤ 300) ∧ Below w.heap.size w wr) (fun x _ => l.length - (intOf x).toNat)
  case atStart => exact ⟨0, Nat.zero_le _, rfl, fun t ht => by simp at ht, Below.refl _ _⟩
  case round =>
    obtain ⟨i, hi, rfl, hall, hb⟩ := hrel
    have HB := Lib.hid hb
    have HALL := Lib.hid hall
    clear hb hall
    by_cases hlt : i < l.length
    · obtain ⟨u, hu⟩ : ∃ u, l[i]? = some u := ⟨_, List.getElem?_eq_getElem hlt⟩
      obtain ⟨b, o, A1, c1, rfl, hb1, d0, d1, d2, d3, hta, _⟩ := (HTS.out.later HB.out).at_ hu
      have HC := Lib.hid (big_any u _ wr hta)
      have HTK := Lib.hid (take_snoc_of hu)
      clear hta hu
      go_wp2_with fail
      refine HC.out.mono ?_
      rintro e w2 ⟨⟨r, rfl, hr⟩, hb2⟩
      have HB2 := Lib.hid (bnext HB.out hb2)
      have HR := Lib.hid hr
      clear hb2 hr
      cases r with
      | true =>
        go_wp2_with fail
        go_ret
        exact ⟨⟨true, rfl, fun h => by cases h⟩, HB2.out⟩
      | false =>
        have HR0 := Lib.hid (HR.out rfl)
        clear HR
        go_wp2_with fail
        go_roundw
        case rel => exact ⟨i + 1, by omega, by go_num, fun t ht => by
          rw [HTK.out] at ht
          rcases List.mem_append.1 ht with ht | ht
          · exact HALL.out t ht
          · rw [List.mem_singleton.1 ht]; exact HR0.out, HB2.out⟩
        case measure => simp [intOf]; omega
    · obtain rfl : i = l.length := by omega
      have HALL2 := Lib.hid (show ∀ t ∈ l, nodes t ≤ 300 from fun t ht => HALL.out t (by rw [List.take_length]; exact ht))
      go_wp2_with fail
      go_loopw [6] (fun x wr => ∃ i : Nat, i ≤ bs.length ∧ i ≤ 101 ∧ x = .int .i64 (i : Int) ∧ (∀ q ∈ bs.take i, nodes q.2 ≤ 300) ∧ Below w.heap.size w wr) (fun x _ => bs.length - (intOf x).toNat)
      case atStart => exact ⟨0, Nat.zero_le _, by omega, rfl, fun t ht => by simp at ht, HB.out⟩
      case round =>
        obtain ⟨i, hi, hi2, rfl, hall, hb⟩ := hrel
        have HB := Lib.hid hb
        have HALL := Lib.hid hall
        clear hb hall
        by_cases hlt : i < bs.length
        · by_cases h101 : i < 101
          · obtain ⟨⟨pn, u⟩, hu⟩ : ∃ u, bs[i]? = some u := ⟨_, List.getElem?_eq_getElem hlt⟩
            obtain ⟨b, o, A1, c1, rfl, hb1, d, d0, d1, d2, d3, hta⟩ := (HBS.out.later HB.out).at_ hu
            simp only at d d0 d1 d2 d3 hta
            have HC := Lib.hid (big_any u _ _ hta)
            have HTK := Lib.hid (take_snoc_of hu)
            clear hta hu
            go_wp2_with fail
            refine HC.out.mono ?_
            rintro e w2 ⟨⟨r, rfl, hr⟩, hb2⟩
            have HB2 := Lib.hid (bnext HB.out hb2)
            have HR := Lib.hid hr
            clear hb2 hr
            cases r with
            | true =>
              go_wp2_with fail
              go_ret
              exact ⟨⟨true, rfl, fun h => by cases h⟩, HB2.out⟩
            | false =>
              have HR0 := Lib.hid (HR.out rfl)
              clear HR
              go_wp2_with fail
              go_roundw
              case rel => exact ⟨i + 1, by omega, by omega, by go_num, fun t ht => by
                rw [HTK.out] at ht
                rcases List.mem_append.1 ht with ht | ht
                · exact HALL.out t ht
                · rw [List.mem_singleton.1 ht]; exact HR0.out, HB2.out⟩
              case measure => simp [intOf]; omega
          · have hge : 100 < bs.length := by omega
            go_wp2_with fail
            go_ret
            exact ⟨⟨true, ret1_b (by simp; omega), fun h => by cases h⟩, HB.out⟩
        · obtain rfl : i = bs.length := by omega
          have HALL3 := Lib.hid (show ∀ q ∈ bs, nodes q.2 ≤ 300 from fun t ht => HALL.out t (by rw [List.take_length]; exact ht))
          go_wp2_with fail
          go_ret
          exact ⟨⟨_, rfl, fun h => ⟨HALL2.out, HALL3.out, by simp at h; omega⟩⟩, HB.out⟩
end Go.Proofs.Ytlaplakaifmpeaa.Pt
