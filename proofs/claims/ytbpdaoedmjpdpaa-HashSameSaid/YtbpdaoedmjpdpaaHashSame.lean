/- The law HashSame returns true for any two terms. -/
import Derived.Test.YtbpdaoedmjpdpaaHashKnown
import Derived.Test.YtbpdaoedmjpdpaaHashHash
import Derived.Test.YtbpdaoedmjpdpaaHashInj
import Derived.Test.YtbpdaoedmjpdpaaCheck
import Derived.Test.YtbpdaoedmjpdpaaSame
import Derived.Test.YtbpdaoedmjpdpaaOpenTm
import Derived.Test.YtbpdaoedmjpdpaaSmall
import Derived.Deep.RegionHeld3
import Derived.BigQuiet
namespace Go.Proofs.Ytbpdaoedmjpdpaa.HashSame
open Go.RowKit K Hs
open Go.ChangeShapes Go.WideShapes Go.ChangeAt
set_option linter.unusedVariables false
set_option linter.unusedSimpArgs false

theorem sound_len {k n : Int} {q m : Nat} (h : soundK k n q m = true) : q ≤ 64 := by
  unfold soundK at h
  repeat' split at h
  all_goals first | (simp at h; omega) | (cases h)
theorem bytes_len : ∀ t : Tm, Snd t → (bytesT t).length ≤ 75 * nodes t := by
  refine Tm.ind fun t ih h => ?_
  obtain ⟨k, n, s, l⟩ := t
  have hs := h.top
  unfold soundB at hs
  simp only [Tm.k_mk, Tm.n_mk, Tm.s_mk, Tm.l_mk] at hs ih
  have hq := sound_len hs
  have hl : (bytesL l).length ≤ 75 * nodesL l := by
    have hp : ∀ u ∈ l, Snd u := fun u hu => h.part hu
    clear h hs
    induction l with
    | nil => simp [bytesL_nil, nodesL_nil]
    | cons x r ihr =>
      rw [bytesL_cons, nodesL_cons, List.length_append]
      have h1 := ih x (List.mem_cons_self ..) (hp x (List.mem_cons_self ..))
      have h2 := ihr (fun u hu => ih u (List.mem_cons_of_mem _ hu)) (fun u hu => hp u (List.mem_cons_of_mem _ hu))
      omega
  rw [bytesT_mk, nodes_mk]
  have hm : (midB k n s).length ≤ 65 := by
    unfold midB
    split
    · rw [le8_len]; omega
    · split
      · simp [strB_len]; omega
      · simp
  have hn : (lenB k l.length).length ≤ 1 := by
    unfold lenB; split <;> simp
  have hr : (if hasB (.mk k n s l) = true then bytesL l else []).length ≤ 75 * nodesL l := by
    split
    · exact hl
    · simp
  simp only [List.length_cons, List.length_append]
  omega
theorem same_bytes {a b : Tm} (ha : Snd a) (hb : Snd b) : decide (bytesT a = bytesT b) = eqT a b := by
  by_cases h : a = b
  · subst h
    rw [eqT_self]; simp
  · have h1 : eqT a b = false := by
      cases he : eqT a b with
      | false => rfl
      | true => exact absurd (eqT_iff.1 he) h
    rw [h1]
    exact decide_eq_false fun h' => h ((bytes_same ha hb).1 h')

theorem chk_ne {t : Tm} (h : ¬ chk t = 0) : chk t = 2 ∨ chk t = 3 := by
  unfold chk at *
  split
  · rename_i h1
    rw [if_pos h1] at h
    split
    · exact .inr rfl
    · rename_i h2; rw [if_neg h2] at h; exact absurd rfl h
  · exact .inl rfl
set_option maxRecDepth 100000 in
set_option maxHeartbeats 8000000 in
theorem walk (a b : Tm) (v v' : Value) (w : World) (h : TA w a v) (h' : TA w b v') : Calls Try.prog 7 #[v, v'] w fun e w' => e = .returned (.bool true) ∧ Below w.heap.size w w' := by
  have HTA := Lib.hid h; have HTB := Lib.hid h'
  obtain ⟨k0, n0, s, l, A, c, rfl, rfl, ok, hl⟩ := h.open_
  obtain ⟨k', n', s', l', A', c', rfl, rfl, ok', hl'⟩ := h'.open_
  clear h h' ok ok' hl hl'
  obtain ⟨w1, hw1⟩ : ∃ w1, (w.alloc (.cells #[.int .i64 k0, .int .i64 n0, .string s, .slice A l.length c] 35)).alloc (.cells #[.int .i64 k', .int .i64 n', .string s', .slice A' l'.length c'] 35) = w1 := ⟨_, rfl⟩
  have HR := Lib.hid (show Below w.heap.size w w1 from by rw [← hw1]; exact ballocs (ballocs (Below.refl w.heap.size w) _) _)
  have HGa := Lib.hid (show Blk w1 w.heap.size 35 #[.int .i64 k0, .int .i64 n0, .string s, .slice A l.length c] from by rw [← hw1]; exact (Blk.new _ _ _).alloc _)
  have HGb := Lib.hid (show Blk w1 (w.heap.size + 1) 35 #[.int .i64 k', .int .i64 n', .string s', .slice A' l'.length c'] from by rw [← hw1, ← World.size_alloc w (.cells #[.int .i64 k0, .int .i64 n0, .string s, .slice A l.length c] 35)]; exact Blk.new _ _ _)
  have HTA1 := Lib.hid (HTA.out.later HR.out)
  have HTB1 := Lib.hid (HTB.out.later HR.out)
  have HW := Lib.hid hw1
  have HK := Lib.hid (fun w => HashKnown.known w)
  have HLT := Lib.hid (fun t v w h => largeTerm_any t 300 v w (by omega) h)
  have HCK := Lib.hid (fun t v w h hn => check_any t v w h hn)
  clear hw1
  by_cases q1 : largeT (.mk k0 n0 s l) 300 = true
  · skip
    have HGa1 := HGa
    have HGb1 := HGb
    go_enter Try.func7, Try.ntmps7
    go_wp2_with fail
    rw [HW.out]
    refine (HK.out _).mono ?_
    rintro e w2 ⟨rfl, hb⟩
    have HB2 := Lib.hid (bnext HR.out hb)
    have HTA2 := Lib.hid (HTA1.out.later hb)
    have HTB2 := Lib.hid (HTB1.out.later hb)
    have HGa2 := Lib.hid (HGa1.out.below hb HGa1.out.lt)
    have HGb2 := Lib.hid (HGb1.out.below hb HGb1.out.lt)
    clear hb
    obtain ⟨x0, x1, x2, x3, _, _, _, _⟩ := HGa2.out.four
    go_wp2_with fail
    refine (HLT.out _ _ _ HTA2.out).mono ?_
    rintro e w3 ⟨rfl, hb⟩
    rw [q1]
    clear x0 x1 x2 x3
    have HB3 := Lib.hid (bnext HB2.out hb)
    have HTA3 := Lib.hid (HTA2.out.later hb)
    have HTB3 := Lib.hid (HTB2.out.later hb)
    have HGa3 := Lib.hid (HGa2.out.below hb HGa2.out.lt)
    have HGb3 := Lib.hid (HGb2.out.below hb HGb2.out.lt)
    clear hb
    go_wp2_with fail
    go_ret
    exact ⟨rfl, HB3.out⟩
  have q1 := Bool.eq_false_iff.2 q1
  have hna : nodes (.mk k0 n0 s l) ≤ 1048576 := small_nodes q1 (by omega)
  by_cases q2 : largeT (.mk k' n' s' l') 300 = true
  · skip
    have HGa1 := HGa
    have HGb1 := HGb
    go_enter Try.func7, Try.ntmps7
    go_wp2_with fail
    rw [HW.out]
    refine (HK.out _).mono ?_
    rintro e w2 ⟨rfl, hb⟩
    have HB2 := Lib.hid (bnext HR.out hb)
    have HTA2 := Lib.hid (HTA1.out.later hb)
    have HTB2 := Lib.hid (HTB1.out.later hb)
    have HGa2 := Lib.hid (HGa1.out.below hb HGa1.out.lt)
    have HGb2 := Lib.hid (HGb1.out.below hb HGb1.out.lt)
    clear hb
    obtain ⟨x0, x1, x2, x3, _, _, _, _⟩ := HGa2.out.four
    go_wp2_with fail
    refine (HLT.out _ _ _ HTA2.out).mono ?_
    rintro e w3 ⟨rfl, hb⟩
    rw [q1]
    clear x0 x1 x2 x3
    have HB3 := Lib.hid (bnext HB2.out hb)
    have HTA3 := Lib.hid (HTA2.out.later hb)
    have HTB3 := Lib.hid (HTB2.out.later hb)
    have HGa3 := Lib.hid (HGa2.out.below hb HGa2.out.lt)
    have HGb3 := Lib.hid (HGb2.out.below hb HGb2.out.lt)
    clear hb
    obtain ⟨x0, x1, x2, x3, _, _, _, _⟩ := HGb3.out.four
    go_wp2_with fail
    refine (HLT.out _ _ _ HTB3.out).mono ?_
    rintro e w4 ⟨rfl, hb⟩
    rw [q2]
    clear x0 x1 x2 x3
    have HB4 := Lib.hid (bnext HB3.out hb)
    have HTA4 := Lib.hid (HTA3.out.later hb)
    have HTB4 := Lib.hid (HTB3.out.later hb)
    have HGa4 := Lib.hid (HGa3.out.below hb HGa3.out.lt)
    have HGb4 := Lib.hid (HGb3.out.below hb HGb3.out.lt)
    clear hb
    go_wp2_with fail
    go_ret
    exact ⟨rfl, HB4.out⟩
  have q2 := Bool.eq_false_iff.2 q2
  have hnb : nodes (.mk k' n' s' l') ≤ 1048576 := small_nodes q2 (by omega)
  by_cases c3 : chk (.mk k0 n0 s l) = 0
  rotate_left
  · rcases chk_ne c3 with q3 | q3
    · skip
      have HGa1 := HGa
      have HGb1 := HGb
      go_enter Try.func7, Try.ntmps7
      go_wp2_with fail
      rw [HW.out]
      refine (HK.out _).mono ?_
      rintro e w2 ⟨rfl, hb⟩
      have HB2 := Lib.hid (bnext HR.out hb)
      have HTA2 := Lib.hid (HTA1.out.later hb)
      have HTB2 := Lib.hid (HTB1.out.later hb)
      have HGa2 := Lib.hid (HGa1.out.below hb HGa1.out.lt)
      have HGb2 := Lib.hid (HGb1.out.below hb HGb1.out.lt)
      clear hb
      obtain ⟨x0, x1, x2, x3, _, _, _, _⟩ := HGa2.out.four
      go_wp2_with fail
      refine (HLT.out _ _ _ HTA2.out).mono ?_
      rintro e w3 ⟨rfl, hb⟩
      rw [q1]
      clear x0 x1 x2 x3
      have HB3 := Lib.hid (bnext HB2.out hb)
      have HTA3 := Lib.hid (HTA2.out.later hb)
      have HTB3 := Lib.hid (HTB2.out.later hb)
      have HGa3 := Lib.hid (HGa2.out.below hb HGa2.out.lt)
      have HGb3 := Lib.hid (HGb2.out.below hb HGb2.out.lt)
      clear hb
      obtain ⟨x0, x1, x2, x3, _, _, _, _⟩ := HGb3.out.four
      go_wp2_with fail
      refine (HLT.out _ _ _ HTB3.out).mono ?_
      rintro e w4 ⟨rfl, hb⟩
      rw [q2]
      clear x0 x1 x2 x3
      have HB4 := Lib.hid (bnext HB3.out hb)
      have HTA4 := Lib.hid (HTA3.out.later hb)
      have HTB4 := Lib.hid (HTB3.out.later hb)
      have HGa4 := Lib.hid (HGa3.out.below hb HGa3.out.lt)
      have HGb4 := Lib.hid (HGb3.out.below hb HGb3.out.lt)
      clear hb
      obtain ⟨x0, x1, x2, x3, _, _, _, _⟩ := HGa4.out.four
      go_wp2_with fail
      refine (HCK.out _ _ _ HTA4.out hna).mono ?_
      rintro e w5 ⟨rfl, hb⟩
      rw [q3]
      clear x0 x1 x2 x3
      have HB5 := Lib.hid (bnext HB4.out hb)
      have HTA5 := Lib.hid (HTA4.out.later hb)
      have HTB5 := Lib.hid (HTB4.out.later hb)
      have HGa5 := Lib.hid (HGa4.out.below hb HGa4.out.lt)
      have HGb5 := Lib.hid (HGb4.out.below hb HGb4.out.lt)
      clear hb
      go_wp2_with fail
      go_ret
      exact ⟨rfl, HB5.out⟩
    · skip
      have HGa1 := HGa
      have HGb1 := HGb
      go_enter Try.func7, Try.ntmps7
      go_wp2_with fail
      rw [HW.out]
      refine (HK.out _).mono ?_
      rintro e w2 ⟨rfl, hb⟩
      have HB2 := Lib.hid (bnext HR.out hb)
      have HTA2 := Lib.hid (HTA1.out.later hb)
      have HTB2 := Lib.hid (HTB1.out.later hb)
      have HGa2 := Lib.hid (HGa1.out.below hb HGa1.out.lt)
      have HGb2 := Lib.hid (HGb1.out.below hb HGb1.out.lt)
      clear hb
      obtain ⟨x0, x1, x2, x3, _, _, _, _⟩ := HGa2.out.four
      go_wp2_with fail
      refine (HLT.out _ _ _ HTA2.out).mono ?_
      rintro e w3 ⟨rfl, hb⟩
      rw [q1]
      clear x0 x1 x2 x3
      have HB3 := Lib.hid (bnext HB2.out hb)
      have HTA3 := Lib.hid (HTA2.out.later hb)
      have HTB3 := Lib.hid (HTB2.out.later hb)
      have HGa3 := Lib.hid (HGa2.out.below hb HGa2.out.lt)
      have HGb3 := Lib.hid (HGb2.out.below hb HGb2.out.lt)
      clear hb
      obtain ⟨x0, x1, x2, x3, _, _, _, _⟩ := HGb3.out.four
      go_wp2_with fail
      refine (HLT.out _ _ _ HTB3.out).mono ?_
      rintro e w4 ⟨rfl, hb⟩
      rw [q2]
      clear x0 x1 x2 x3
      have HB4 := Lib.hid (bnext HB3.out hb)
      have HTA4 := Lib.hid (HTA3.out.later hb)
      have HTB4 := Lib.hid (HTB3.out.later hb)
      have HGa4 := Lib.hid (HGa3.out.below hb HGa3.out.lt)
      have HGb4 := Lib.hid (HGb3.out.below hb HGb3.out.lt)
      clear hb
      obtain ⟨x0, x1, x2, x3, _, _, _, _⟩ := HGa4.out.four
      go_wp2_with fail
      refine (HCK.out _ _ _ HTA4.out hna).mono ?_
      rintro e w5 ⟨rfl, hb⟩
      rw [q3]
      clear x0 x1 x2 x3
      have HB5 := Lib.hid (bnext HB4.out hb)
      have HTA5 := Lib.hid (HTA4.out.later hb)
      have HTB5 := Lib.hid (HTB4.out.later hb)
      have HGa5 := Lib.hid (HGa4.out.below hb HGa4.out.lt)
      have HGb5 := Lib.hid (HGb4.out.below hb HGb4.out.lt)
      clear hb
      go_wp2_with fail
      go_ret
      exact ⟨rfl, HB5.out⟩
  have q3 := c3
  by_cases c4 : chk (.mk k' n' s' l') = 0
  rotate_left
  · rcases chk_ne c4 with q4 | q4
    · skip
      have HGa1 := HGa
      have HGb1 := HGb
      go_enter Try.func7, Try.ntmps7
      go_wp2_with fail
      rw [HW.out]
      refine (HK.out _).mono ?_
      rintro e w2 ⟨rfl, hb⟩
      have HB2 := Lib.hid (bnext HR.out hb)
      have HTA2 := Lib.hid (HTA1.out.later hb)
      have HTB2 := Lib.hid (HTB1.out.later hb)
      have HGa2 := Lib.hid (HGa1.out.below hb HGa1.out.lt)
      have HGb2 := Lib.hid (HGb1.out.below hb HGb1.out.lt)
      clear hb
      obtain ⟨x0, x1, x2, x3, _, _, _, _⟩ := HGa2.out.four
      go_wp2_with fail
      refine (HLT.out _ _ _ HTA2.out).mono ?_
      rintro e w3 ⟨rfl, hb⟩
      rw [q1]
      clear x0 x1 x2 x3
      have HB3 := Lib.hid (bnext HB2.out hb)
      have HTA3 := Lib.hid (HTA2.out.later hb)
      have HTB3 := Lib.hid (HTB2.out.later hb)
      have HGa3 := Lib.hid (HGa2.out.below hb HGa2.out.lt)
      have HGb3 := Lib.hid (HGb2.out.below hb HGb2.out.lt)
      clear hb
      obtain ⟨x0, x1, x2, x3, _, _, _, _⟩ := HGb3.out.four
      go_wp2_with fail
      refine (HLT.out _ _ _ HTB3.out).mono ?_
      rintro e w4 ⟨rfl, hb⟩
      rw [q2]
      clear x0 x1 x2 x3
      have HB4 := Lib.hid (bnext HB3.out hb)
      have HTA4 := Lib.hid (HTA3.out.later hb)
      have HTB4 := Lib.hid (HTB3.out.later hb)
      have HGa4 := Lib.hid (HGa3.out.below hb HGa3.out.lt)
      have HGb4 := Lib.hid (HGb3.out.below hb HGb3.out.lt)
      clear hb
      obtain ⟨x0, x1, x2, x3, _, _, _, _⟩ := HGa4.out.four
      go_wp2_with fail
      refine (HCK.out _ _ _ HTA4.out hna).mono ?_
      rintro e w5 ⟨rfl, hb⟩
      rw [q3]
      clear x0 x1 x2 x3
      have HB5 := Lib.hid (bnext HB4.out hb)
      have HTA5 := Lib.hid (HTA4.out.later hb)
      have HTB5 := Lib.hid (HTB4.out.later hb)
      have HGa5 := Lib.hid (HGa4.out.below hb HGa4.out.lt)
      have HGb5 := Lib.hid (HGb4.out.below hb HGb4.out.lt)
      clear hb
      obtain ⟨x0, x1, x2, x3, _, _, _, _⟩ := HGb5.out.four
      go_wp2_with fail
      refine (HCK.out _ _ _ HTB5.out hnb).mono ?_
      rintro e w6 ⟨rfl, hb⟩
      rw [q4]
      clear x0 x1 x2 x3
      have HB6 := Lib.hid (bnext HB5.out hb)
      have HTA6 := Lib.hid (HTA5.out.later hb)
      have HTB6 := Lib.hid (HTB5.out.later hb)
      have HGa6 := Lib.hid (HGa5.out.below hb HGa5.out.lt)
      have HGb6 := Lib.hid (HGb5.out.below hb HGb5.out.lt)
      clear hb
      go_wp2_with fail
      go_ret
      exact ⟨rfl, HB6.out⟩
    · skip
      have HGa1 := HGa
      have HGb1 := HGb
      go_enter Try.func7, Try.ntmps7
      go_wp2_with fail
      rw [HW.out]
      refine (HK.out _).mono ?_
      rintro e w2 ⟨rfl, hb⟩
      have HB2 := Lib.hid (bnext HR.out hb)
      have HTA2 := Lib.hid (HTA1.out.later hb)
      have HTB2 := Lib.hid (HTB1.out.later hb)
      have HGa2 := Lib.hid (HGa1.out.below hb HGa1.out.lt)
      have HGb2 := Lib.hid (HGb1.out.below hb HGb1.out.lt)
      clear hb
      obtain ⟨x0, x1, x2, x3, _, _, _, _⟩ := HGa2.out.four
      go_wp2_with fail
      refine (HLT.out _ _ _ HTA2.out).mono ?_
      rintro e w3 ⟨rfl, hb⟩
      rw [q1]
      clear x0 x1 x2 x3
      have HB3 := Lib.hid (bnext HB2.out hb)
      have HTA3 := Lib.hid (HTA2.out.later hb)
      have HTB3 := Lib.hid (HTB2.out.later hb)
      have HGa3 := Lib.hid (HGa2.out.below hb HGa2.out.lt)
      have HGb3 := Lib.hid (HGb2.out.below hb HGb2.out.lt)
      clear hb
      obtain ⟨x0, x1, x2, x3, _, _, _, _⟩ := HGb3.out.four
      go_wp2_with fail
      refine (HLT.out _ _ _ HTB3.out).mono ?_
      rintro e w4 ⟨rfl, hb⟩
      rw [q2]
      clear x0 x1 x2 x3
      have HB4 := Lib.hid (bnext HB3.out hb)
      have HTA4 := Lib.hid (HTA3.out.later hb)
      have HTB4 := Lib.hid (HTB3.out.later hb)
      have HGa4 := Lib.hid (HGa3.out.below hb HGa3.out.lt)
      have HGb4 := Lib.hid (HGb3.out.below hb HGb3.out.lt)
      clear hb
      obtain ⟨x0, x1, x2, x3, _, _, _, _⟩ := HGa4.out.four
      go_wp2_with fail
      refine (HCK.out _ _ _ HTA4.out hna).mono ?_
      rintro e w5 ⟨rfl, hb⟩
      rw [q3]
      clear x0 x1 x2 x3
      have HB5 := Lib.hid (bnext HB4.out hb)
      have HTA5 := Lib.hid (HTA4.out.later hb)
      have HTB5 := Lib.hid (HTB4.out.later hb)
      have HGa5 := Lib.hid (HGa4.out.below hb HGa4.out.lt)
      have HGb5 := Lib.hid (HGb4.out.below hb HGb4.out.lt)
      clear hb
      obtain ⟨x0, x1, x2, x3, _, _, _, _⟩ := HGb5.out.four
      go_wp2_with fail
      refine (HCK.out _ _ _ HTB5.out hnb).mono ?_
      rintro e w6 ⟨rfl, hb⟩
      rw [q4]
      clear x0 x1 x2 x3
      have HB6 := Lib.hid (bnext HB5.out hb)
      have HTA6 := Lib.hid (HTA5.out.later hb)
      have HTB6 := Lib.hid (HTB5.out.later hb)
      have HGa6 := Lib.hid (HGa5.out.below hb HGa5.out.lt)
      have HGb6 := Lib.hid (HGb5.out.below hb HGb5.out.lt)
      clear hb
      go_wp2_with fail
      go_ret
      exact ⟨rfl, HB6.out⟩
  have q4 := c4
  have ha9 := snd_of_chk c3
  have hb9 := snd_of_chk c4
  have hla := bytes_len _ ha9
  have hlb := bytes_len _ hb9
  have ra : (bytesT (.mk k0 n0 s l)).length ≤ 1099511627776 := by omega
  have rb : (bytesT (.mk k' n' s' l')).length ≤ 1099511627776 := by omega
  have HSB := Lib.hid (same_bytes ha9 hb9)
  clear ha9 hb9 hla hlb c3 c4
  obtain ⟨q, hq⟩ : ∃ q, eqT (.mk k0 n0 s l) (.mk k' n' s' l') = q := ⟨_, rfl⟩
  have HHS := Lib.hid (show q = true → hashT (.mk k0 n0 s l) = hashT (.mk k' n' s' l') from fun h => by rw [eqT_iff.1 (hq.trans h)])
  rw [hq] at HSB
  have HEQ := Lib.hid hq
  clear hq
  have HGa1 := HGa
  have HGb1 := HGb
  go_enter Try.func7, Try.ntmps7
  go_wp2_with fail
  rw [HW.out]
  refine (HK.out _).mono ?_
  rintro e w2 ⟨rfl, hb⟩
  have HB2 := Lib.hid (bnext HR.out hb)
  have HTA2 := Lib.hid (HTA1.out.later hb)
  have HTB2 := Lib.hid (HTB1.out.later hb)
  have HGa2 := Lib.hid (HGa1.out.below hb HGa1.out.lt)
  have HGb2 := Lib.hid (HGb1.out.below hb HGb1.out.lt)
  clear hb
  obtain ⟨x0, x1, x2, x3, _, _, _, _⟩ := HGa2.out.four
  go_wp2_with fail
  refine (HLT.out _ _ _ HTA2.out).mono ?_
  rintro e w3 ⟨rfl, hb⟩
  rw [q1]
  clear x0 x1 x2 x3
  have HB3 := Lib.hid (bnext HB2.out hb)
  have HTA3 := Lib.hid (HTA2.out.later hb)
  have HTB3 := Lib.hid (HTB2.out.later hb)
  have HGa3 := Lib.hid (HGa2.out.below hb HGa2.out.lt)
  have HGb3 := Lib.hid (HGb2.out.below hb HGb2.out.lt)
  clear hb
  obtain ⟨x0, x1, x2, x3, _, _, _, _⟩ := HGb3.out.four
  go_wp2_with fail
  refine (HLT.out _ _ _ HTB3.out).mono ?_
  rintro e w4 ⟨rfl, hb⟩
  rw [q2]
  clear x0 x1 x2 x3
  have HB4 := Lib.hid (bnext HB3.out hb)
  have HTA4 := Lib.hid (HTA3.out.later hb)
  have HTB4 := Lib.hid (HTB3.out.later hb)
  have HGa4 := Lib.hid (HGa3.out.below hb HGa3.out.lt)
  have HGb4 := Lib.hid (HGb3.out.below hb HGb3.out.lt)
  clear hb
  obtain ⟨x0, x1, x2, x3, _, _, _, _⟩ := HGa4.out.four
  go_wp2_with fail
  refine (HCK.out _ _ _ HTA4.out hna).mono ?_
  rintro e w5 ⟨rfl, hb⟩
  rw [q3]
  clear x0 x1 x2 x3
  have HB5 := Lib.hid (bnext HB4.out hb)
  have HTA5 := Lib.hid (HTA4.out.later hb)
  have HTB5 := Lib.hid (HTB4.out.later hb)
  have HGa5 := Lib.hid (HGa4.out.below hb HGa4.out.lt)
  have HGb5 := Lib.hid (HGb4.out.below hb HGb4.out.lt)
  clear hb
  obtain ⟨x0, x1, x2, x3, _, _, _, _⟩ := HGb5.out.four
  go_wp2_with fail
  refine (HCK.out _ _ _ HTB5.out hnb).mono ?_
  rintro e w6 ⟨rfl, hb⟩
  rw [q4]
  clear x0 x1 x2 x3
  have HB6 := Lib.hid (bnext HB5.out hb)
  have HTA6 := Lib.hid (HTA5.out.later hb)
  have HTB6 := Lib.hid (HTB5.out.later hb)
  have HGa6 := Lib.hid (HGa5.out.below hb HGa5.out.lt)
  have HGb6 := Lib.hid (HGb5.out.below hb HGb5.out.lt)
  clear hb
  obtain ⟨x0, x1, x2, x3, _, _, _, _⟩ := HGa6.out.four
  obtain ⟨y0, y1, y2, y3, _, _, _, _⟩ := HGb6.out.four
  go_wp2_with fail
  refine (same_any _ _ _ _ _ HTA6.out HTB6.out hna).mono ?_
  rintro e w7 ⟨rfl, hb⟩
  rw [HEQ.out]
  clear y0 y1 y2 y3
  clear x0 x1 x2 x3
  have HB7 := Lib.hid (bnext HB6.out hb)
  have HTA7 := Lib.hid (HTA6.out.later hb)
  have HTB7 := Lib.hid (HTB6.out.later hb)
  have HGa7 := Lib.hid (HGa6.out.below hb HGa6.out.lt)
  have HGb7 := Lib.hid (HGb6.out.below hb HGb6.out.lt)
  clear hb
  clear HW HLT HCK HK HR HGa HGb HTA HTB HTA1 HTB1 HGa1 HGb1 HTA2 HTB2 HGa2 HGb2 HTA3 HTB3 HGa3 HGb3 HTA4 HTB4 HGa4 HGb4 HTA5 HTB5 HGa5 HGb5 HTA6 HTB6 HGa6 HGb6 HB2 HB3 HB4 HB5 HB6
  cases q
  · skip
    obtain ⟨x0, x1, x2, x3, _, _, _, _⟩ := HGa7.out.four
    obtain ⟨y0, y1, y2, y3, _, _, _, _⟩ := HGb7.out.four
    go_wp2_with fail
    have HS := Lib.hid (show ∀ wx', Below w7.heap.size w7 wx' → (Below w7.heap.size w7 wx' ∧ wx'.cell? ⟨w.heap.size, 0, none⟩ = some (.int .i64 k0) ∧ wx'.cell? ⟨w.heap.size, 1, none⟩ = some (.int .i64 n0) ∧ wx'.cell? ⟨w.heap.size, 2, none⟩ = some (.string s) ∧ wx'.cell? ⟨w.heap.size, 3, none⟩ = some (.slice A l.length c) ∧ wx'.cell? ⟨w.heap.size + 1, 0, none⟩ = some (.int .i64 k') ∧ wx'.cell? ⟨w.heap.size + 1, 1, none⟩ = some (.int .i64 n') ∧ wx'.cell? ⟨w.heap.size + 1, 2, none⟩ = some (.string s') ∧ wx'.cell? ⟨w.heap.size + 1, 3, none⟩ = some (.slice A' l'.length c')) from fun wx' hb => by
        obtain ⟨p0, p1, p2, p3, _, _, _, _⟩ := (HGa7.out.below hb HGa7.out.lt).four
        obtain ⟨s0, s1, s2, s3, _, _, _, _⟩ := (HGb7.out.below hb HGb7.out.lt).four
        exact ⟨hb, p0, p1, p2, p3, s0, s1, s2, s3⟩)
    go_region_held3 (fun wx' => Below w7.heap.size w7 wx' ∧ wx'.cell? ⟨w.heap.size, 0, none⟩ = some (.int .i64 k0) ∧ wx'.cell? ⟨w.heap.size, 1, none⟩ = some (.int .i64 n0) ∧ wx'.cell? ⟨w.heap.size, 2, none⟩ = some (.string s) ∧ wx'.cell? ⟨w.heap.size, 3, none⟩ = some (.slice A l.length c) ∧ wx'.cell? ⟨w.heap.size + 1, 0, none⟩ = some (.int .i64 k') ∧ wx'.cell? ⟨w.heap.size + 1, 1, none⟩ = some (.int .i64 n') ∧ wx'.cell? ⟨w.heap.size + 1, 2, none⟩ = some (.string s') ∧ wx'.cell? ⟨w.heap.size + 1, 3, none⟩ = some (.slice A' l'.length c')) (first
        | exact HS.out _ (btodrew (Below.refl _ _))
        | exact HS.out _ hbz
        | assumption) (first
        | (go_at_call 16
           have hmark := HMK
           have hby := And.left (by assumption)
           refine (bytesR_any _ _ rfl _ _ (HTB7.out.later hby) rb).mono ?_
           rintro e wz ⟨A2, c2, rfl, hr2, hA2, hbz0⟩
           have HRA2 := Lib.hid (reads_later HRA.out hbz0)
           have HRB := Lib.hid hr2
           have HAB := Lib.hid hA2
           clear hr2 hA2
           have hbz := bnext hby hbz0)
        | (go_at_call 16
           have HMK := trivial
           have hby := And.left (by assumption)
           refine (bytesR_any _ _ rfl _ _ (HTA7.out.later hby) ra).mono ?_
           rintro e wz ⟨A1, c1, rfl, hr1, hA1, hbz0⟩
           have HRA := Lib.hid hr1
           have HAA := Lib.hid hA1
           clear hr1 hA1
           have hbz := bnext hby hbz0)
        | (go_at_call 15
           have hby := And.left (by assumption)
           refine (sameB_any _ _ _ _ _ _ _ _ HRA2.out HRB.out HAA.out HAB.out).mono ?_
           rintro e wz ⟨rfl, rfl⟩
           rw [HSB.out]
           have hbz := hby))
    have hb := And.left (by assumption)
    clear y0 y1 y2 y3
    clear x0 x1 x2 x3
    have HB8 := Lib.hid (bnext HB7.out hb)
    have HTA8 := Lib.hid (HTA7.out.later hb)
    have HTB8 := Lib.hid (HTB7.out.later hb)
    have HGa8 := Lib.hid (HGa7.out.below hb HGa7.out.lt)
    have HGb8 := Lib.hid (HGb7.out.below hb HGb7.out.lt)
    clear hb
    clear HS
    obtain ⟨x0, x1, x2, x3, _, _, _, _⟩ := HGa8.out.four
    obtain ⟨y0, y1, y2, y3, _, _, _, _⟩ := HGb8.out.four
    go_wp2_with fail
    have HS := Lib.hid (show ∀ wx', Below wz.heap.size wz wx' → (Below wz.heap.size wz wx' ∧ wx'.cell? ⟨w.heap.size, 0, none⟩ = some (.int .i64 k0) ∧ wx'.cell? ⟨w.heap.size, 1, none⟩ = some (.int .i64 n0) ∧ wx'.cell? ⟨w.heap.size, 2, none⟩ = some (.string s) ∧ wx'.cell? ⟨w.heap.size, 3, none⟩ = some (.slice A l.length c) ∧ wx'.cell? ⟨w.heap.size + 1, 0, none⟩ = some (.int .i64 k') ∧ wx'.cell? ⟨w.heap.size + 1, 1, none⟩ = some (.int .i64 n') ∧ wx'.cell? ⟨w.heap.size + 1, 2, none⟩ = some (.string s') ∧ wx'.cell? ⟨w.heap.size + 1, 3, none⟩ = some (.slice A' l'.length c')) from fun wx' hb => by
        obtain ⟨p0, p1, p2, p3, _, _, _, _⟩ := (HGa8.out.below hb HGa8.out.lt).four
        obtain ⟨s0, s1, s2, s3, _, _, _, _⟩ := (HGb8.out.below hb HGb8.out.lt).four
        exact ⟨hb, p0, p1, p2, p3, s0, s1, s2, s3⟩)
    go_quiet (fail)
    go_wp2_with fail
    go_ret
    first | exact ⟨rfl, HB8.out⟩ | exact ⟨rfl, below_drewN HB8.out _⟩
  · skip
    obtain ⟨x0, x1, x2, x3, _, _, _, _⟩ := HGa7.out.four
    obtain ⟨y0, y1, y2, y3, _, _, _, _⟩ := HGb7.out.four
    go_wp2_with fail
    have HS := Lib.hid (show ∀ wx', Below w7.heap.size w7 wx' → (Below w7.heap.size w7 wx' ∧ wx'.cell? ⟨w.heap.size, 0, none⟩ = some (.int .i64 k0) ∧ wx'.cell? ⟨w.heap.size, 1, none⟩ = some (.int .i64 n0) ∧ wx'.cell? ⟨w.heap.size, 2, none⟩ = some (.string s) ∧ wx'.cell? ⟨w.heap.size, 3, none⟩ = some (.slice A l.length c) ∧ wx'.cell? ⟨w.heap.size + 1, 0, none⟩ = some (.int .i64 k') ∧ wx'.cell? ⟨w.heap.size + 1, 1, none⟩ = some (.int .i64 n') ∧ wx'.cell? ⟨w.heap.size + 1, 2, none⟩ = some (.string s') ∧ wx'.cell? ⟨w.heap.size + 1, 3, none⟩ = some (.slice A' l'.length c')) from fun wx' hb => by
        obtain ⟨p0, p1, p2, p3, _, _, _, _⟩ := (HGa7.out.below hb HGa7.out.lt).four
        obtain ⟨s0, s1, s2, s3, _, _, _, _⟩ := (HGb7.out.below hb HGb7.out.lt).four
        exact ⟨hb, p0, p1, p2, p3, s0, s1, s2, s3⟩)
    go_region_held3 (fun wx' => Below w7.heap.size w7 wx' ∧ wx'.cell? ⟨w.heap.size, 0, none⟩ = some (.int .i64 k0) ∧ wx'.cell? ⟨w.heap.size, 1, none⟩ = some (.int .i64 n0) ∧ wx'.cell? ⟨w.heap.size, 2, none⟩ = some (.string s) ∧ wx'.cell? ⟨w.heap.size, 3, none⟩ = some (.slice A l.length c) ∧ wx'.cell? ⟨w.heap.size + 1, 0, none⟩ = some (.int .i64 k') ∧ wx'.cell? ⟨w.heap.size + 1, 1, none⟩ = some (.int .i64 n') ∧ wx'.cell? ⟨w.heap.size + 1, 2, none⟩ = some (.string s') ∧ wx'.cell? ⟨w.heap.size + 1, 3, none⟩ = some (.slice A' l'.length c')) (first
        | exact HS.out _ (btodrew (Below.refl _ _))
        | exact HS.out _ hbz
        | assumption) (first
        | (go_at_call 16
           have hmark := HMK
           have hby := And.left (by assumption)
           refine (bytesR_any _ _ rfl _ _ (HTB7.out.later hby) rb).mono ?_
           rintro e wz ⟨A2, c2, rfl, hr2, hA2, hbz0⟩
           have HRA2 := Lib.hid (reads_later HRA.out hbz0)
           have HRB := Lib.hid hr2
           have HAB := Lib.hid hA2
           clear hr2 hA2
           have hbz := bnext hby hbz0)
        | (go_at_call 16
           have HMK := trivial
           have hby := And.left (by assumption)
           refine (bytesR_any _ _ rfl _ _ (HTA7.out.later hby) ra).mono ?_
           rintro e wz ⟨A1, c1, rfl, hr1, hA1, hbz0⟩
           have HRA := Lib.hid hr1
           have HAA := Lib.hid hA1
           clear hr1 hA1
           have hbz := bnext hby hbz0)
        | (go_at_call 15
           have hby := And.left (by assumption)
           refine (sameB_any _ _ _ _ _ _ _ _ HRA2.out HRB.out HAA.out HAB.out).mono ?_
           rintro e wz ⟨rfl, rfl⟩
           rw [HSB.out]
           have hbz := hby))
    have hb := And.left (by assumption)
    clear y0 y1 y2 y3
    clear x0 x1 x2 x3
    have HB8 := Lib.hid (bnext HB7.out hb)
    have HTA8 := Lib.hid (HTA7.out.later hb)
    have HTB8 := Lib.hid (HTB7.out.later hb)
    have HGa8 := Lib.hid (HGa7.out.below hb HGa7.out.lt)
    have HGb8 := Lib.hid (HGb7.out.below hb HGb7.out.lt)
    clear hb
    clear HS
    obtain ⟨x0, x1, x2, x3, _, _, _, _⟩ := HGa8.out.four
    obtain ⟨y0, y1, y2, y3, _, _, _, _⟩ := HGb8.out.four
    go_wp2_with fail
    have HHS2 := Lib.hid (HHS.out (by simp))
    obtain ⟨hx, HX⟩ : ∃ x, x = hashT (.mk k0 n0 s l) := ⟨_, rfl⟩
    obtain ⟨hy, HY⟩ : ∃ x, x = hashT (.mk k' n' s' l') := ⟨_, rfl⟩
    have hxy : hx = hy := by rw [HX, HY]; exact HHS2.out
    have HX := Lib.hid HX
    have HY := Lib.hid HY
    clear HHS2
    subst hxy
    have HS := Lib.hid (show ∀ wx', Below wz.heap.size wz wx' → (Below wz.heap.size wz wx' ∧ wx'.cell? ⟨w.heap.size, 0, none⟩ = some (.int .i64 k0) ∧ wx'.cell? ⟨w.heap.size, 1, none⟩ = some (.int .i64 n0) ∧ wx'.cell? ⟨w.heap.size, 2, none⟩ = some (.string s) ∧ wx'.cell? ⟨w.heap.size, 3, none⟩ = some (.slice A l.length c) ∧ wx'.cell? ⟨w.heap.size + 1, 0, none⟩ = some (.int .i64 k') ∧ wx'.cell? ⟨w.heap.size + 1, 1, none⟩ = some (.int .i64 n') ∧ wx'.cell? ⟨w.heap.size + 1, 2, none⟩ = some (.string s') ∧ wx'.cell? ⟨w.heap.size + 1, 3, none⟩ = some (.slice A' l'.length c')) from fun wx' hb => by
        obtain ⟨p0, p1, p2, p3, _, _, _, _⟩ := (HGa8.out.below hb HGa8.out.lt).four
        obtain ⟨s0, s1, s2, s3, _, _, _, _⟩ := (HGb8.out.below hb HGb8.out.lt).four
        exact ⟨hb, p0, p1, p2, p3, s0, s1, s2, s3⟩)
    go_region_with (first
        | (go_at_call 25
           have hmark := HMK
           refine (hash_any _ _ _ HTBn.out).mono ?_
           rintro e wz2 ⟨rfl, hbz0⟩
           rw [← HY.out]
           have HBn2 := Lib.hid (bnext HBn.out hbz0))
        | (go_at_call 25
           have HMK := trivial
           refine (hash_any _ _ _ (HTA8.out.later (btodrew (Below.refl _ _)))).mono ?_
           rintro e wz1 ⟨rfl, hbz0⟩
           rw [← HX.out]
           have hbzz := bnext (btodrew (Below.refl wz.heap.size wz)) hbz0
           obtain ⟨_, p0, p1, p2, p3, s0, s1, s2, s3⟩ := HS.out _ hbzz
           have HTBn := Lib.hid (HTB8.out.later hbzz)
           have HBn := Lib.hid (bnext HB8.out hbzz)
           clear hbzz hbz0))
    all_goals
      go_wp2_with fail
      go_ret
      exact ⟨rfl, HBn2.out⟩
theorem contract {H : Type} {enc : TypeId × Value → H} (W : World) {base : Nat} {r r' : Reach} {b b' : Nat} {hd hd' : Bool} {v0 v1 : Value} {d0 d1 : DataW H} {p0 p1 : List MemPlace}
    (o0 : Value.okWide Try.prog W r b 35 v0) (h0 : DataW.Trod enc Try.prog W base (fun _ => true) hd 35 v0 d0 p0) (o1 : Value.okWide Try.prog W r' b' 35 v1) (h1 : DataW.Trod enc Try.prog W base (fun _ => true) hd' 35 v1 d1 p1) {Q R : Prop} (_ : Q) (_ : R) :
    Calls Try.prog 7 #[v0, v1] W fun e w' => e = .returned (.bool true) ∧ Below W.heap.size W w' := by
  obtain ⟨a, ha⟩ := open_t o0 h0
  obtain ⟨b, hb⟩ := open_t o1 h1
  exact walk a b v0 v1 W ha hb

theorem own : ownKnob Try.prog.godebug = none := by kernel_rfl
theorem laidOut : laidOutB Try.prog = true := by kernel_rfl
theorem readable : ∀ t ∈ Try.f7.params.toList, Try.prog.readableRec t = true ∧ t < Try.prog.types.size := by
  rw [show Try.f7.params = #[35, 35] from Try.params7]
  intro t h
  simp only [List.mem_cons, List.not_mem_nil, or_false] at h
  rcases h with rfl | rfl
  · exact ⟨by kernel_rfl, of_decide_eq_true (by kernel_rfl)⟩
  · exact ⟨by kernel_rfl, of_decide_eq_true (by kernel_rfl)⟩
set_option maxRecDepth 100000 in
theorem lifted (os : Os) (started : os.Started) (H : Type) (enc : TypeId × Value → H) :
    ReturnsInHanded {} Try.checked os 7 .any (Rows.hashSameSpec.pre6 enc Try.prog Try.f7 Rows.hashSameRow.domain false) (Rows.hashSameSpec.post enc Try.prog Try.f7 false true false false) := by
  refine K.law_lift (C := Try.checked) (b := 4) own started (by kernel_rfl) Try.func7
    (ChangeSpec.witness6 (enc := enc) (C := Try.checked) false ⟨#[], #[.agg #[.int .i64 0, .int .i64 0, .string .empty, .slice none 0 0], .agg #[.int .i64 0, .int .i64 0, .string .empty, .slice none 0 0]], []⟩ 8 (by kernel_rfl) (by kernel_rfl) (by kernel_rfl) (by kernel_rfl)) laidOut readable rfl rfl Try.underlying4 ?_ ?_
  · intro ds hds
    rw [show Try.f7.params = #[35, 35] from Try.params7] at hds
    match ds, hds with
    | [d0, d1], _ => rfl
  · intro W base args ds p hval hA hlt hsz
    rw [show Try.checked.prog = Try.prog from rfl] at hval hA hsz
    rw [show Try.f7.params = #[35, 35] from Try.params7] at hA hval hsz
    obtain ⟨v0, vs0, d0, ds0, p0, q0, hargs, rfl, rfl, h0, r0⟩ := trodAll_cons hA
    obtain ⟨v1, vs1, d1, ds1, p1, q1, rfl, rfl, rfl, h1, r1⟩ := trodAll_cons r0
    obtain ⟨rfl, rfl, rfl⟩ := trodAll_nil r1
    obtain rfl : args = #[v0, v1] := by cases args; simp_all
    exact contract W (hval 0 35 v0 rfl rfl) h0 (hval 1 35 v1 rfl rfl) h1 (fun x hx => hlt x hx) hsz

theorem over : Rows.hashSameRow.holds Try.pinned (OpenSpec.ofChange Rows.hashSameSpec) :=
  OpenClaim.holds_of_wide 7 Try.f7 rfl rfl rfl rfl rfl rfl rfl ⟨rfl, rfl, rfl, rfl, rfl⟩ rfl rfl rfl rfl rfl (by kernel_rfl) Try.func7 (by kernel_rfl)
    (of_decide_eq_true (by kernel_rfl)) (by unfold Func.isWrapper; rw [if_neg (of_decide_eq_false (by kernel_rfl))]; exact ⟨rfl, rfl⟩)
    (fun os started H enc _ => lifted os started H enc)

/-- THE STATEMENT -/
theorem proved : Rows.HashSameSaid := over
#print axioms proved
end Go.Proofs.Ytbpdaoedmjpdpaa.HashSame
