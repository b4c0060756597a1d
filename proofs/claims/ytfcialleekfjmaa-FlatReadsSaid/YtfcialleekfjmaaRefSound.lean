/- tenureref02.own, by contracts, kind by kind. (Printed by wip/bin/gen_sound.py.) -/
import Derived.Test.YtfcialleekfjmaaSound
namespace Go.Proofs.Ytfcialleekfjmaa.K
open Go.RowKit
set_option linter.unusedVariables false
set_option linter.unusedSimpArgs false

theorem numbered_yes (n : Int) (w : World) (h0 : 0 ≤ n) (h1 : n ≤ 1073741824) : Calls Try.prog 79 #[.int .i64 n] w fun e w' => e = .returned (.bool true) ∧ w = w' := by
  go_enter Try.func79, Try.ntmps79
  go_wp2_with fail
  go_ret
  exact ⟨ret1_b (by simp), rfl⟩
theorem numbered_no (n : Int) (w : World) (h : ¬ (0 ≤ n ∧ n ≤ 1073741824)) : Calls Try.prog 79 #[.int .i64 n] w fun e w' => e = .returned (.bool false) ∧ w = w' := by
  by_cases h0 : 0 ≤ n
  · have h1 : ¬ n ≤ 1073741824 := fun h1 => h ⟨h0, h1⟩
    clear h
    go_enter Try.func79, Try.ntmps79
    go_wp2_with fail
    go_ret
    exact ⟨ret1_b (by simp), rfl⟩
  · clear h
    go_enter Try.func79, Try.ntmps79
    go_wp2_with fail
    go_ret
    exact ⟨ret1_b (by simp), rfl⟩
set_option maxRecDepth 100000 in
set_option maxHeartbeats 4000000 in
theorem rown_1 (n : Int) (s : ByteArray) (l : List Tm) (A : Option Addr) (c : Nat) (w : World) (HB : Hid (∀ o : Obj, Below w.heap.size w (w.alloc o))) (hs : s.size ≤ 9223372036854775807) (hl : l.length ≤ 9223372036854775807) :
    Calls Try.prog 76 #[.agg #[.int .i64 1, .int .i64 n, .string s, .slice A l.length c]] w fun e w' => e = .returned (.bool (soundB (.mk 1 n s l))) ∧ Below w.heap.size w w' := by
  go_enter Try.func76, Try.ntmps76
  go_wp2_with fail
  all_goals
    go_ret
    refine ⟨ret1_b ?_, HB.out _⟩
    try simp only [toList_nil_iff] at *
    rw [Bool.eq_iff_iff, soundB_1]
    try simp only [beq_iff_eq, decide_eq_true_eq, Bool.false_eq_true, Bool.true_eq_false, true_iff, false_iff]
    first | omega | (simp; omega) | (simp_all; done) | (simp_all; omega)
set_option maxRecDepth 100000 in
set_option maxHeartbeats 4000000 in
theorem rown_2 (n : Int) (s : ByteArray) (l : List Tm) (A : Option Addr) (c : Nat) (w : World) (HB : Hid (∀ o : Obj, Below w.heap.size w (w.alloc o))) (hs : s.size ≤ 9223372036854775807) (hl : l.length ≤ 9223372036854775807) :
    Calls Try.prog 76 #[.agg #[.int .i64 2, .int .i64 n, .string s, .slice A l.length c]] w fun e w' => e = .returned (.bool (soundB (.mk 2 n s l))) ∧ Below w.heap.size w w' := by
  go_enter Try.func76, Try.ntmps76
  go_wp2_with fail
  all_goals
    go_ret
    refine ⟨ret1_b ?_, HB.out _⟩
    try simp only [toList_nil_iff] at *
    rw [Bool.eq_iff_iff, soundB_2]
    try simp only [beq_iff_eq, decide_eq_true_eq, Bool.false_eq_true, Bool.true_eq_false, true_iff, false_iff]
    first | omega | (simp; omega) | (simp_all; done) | (simp_all; omega)
set_option maxRecDepth 100000 in
set_option maxHeartbeats 4000000 in
theorem rown_3 (n : Int) (s : ByteArray) (l : List Tm) (A : Option Addr) (c : Nat) (w : World) (HB : Hid (∀ o : Obj, Below w.heap.size w (w.alloc o))) (hs : s.size ≤ 9223372036854775807) (hl : l.length ≤ 9223372036854775807) :
    Calls Try.prog 76 #[.agg #[.int .i64 3, .int .i64 n, .string s, .slice A l.length c]] w fun e w' => e = .returned (.bool (soundB (.mk 3 n s l))) ∧ Below w.heap.size w w' := by
  by_cases hN : 0 ≤ n ∧ n ≤ 1073741824
  · have HN := Lib.hid (fun w => numbered_yes n w hN.1 hN.2)
    have HZ := Lib.hid hN
    clear hN
    go_enter Try.func76, Try.ntmps76
    go_wp2_with (first | (go_at_call 79; refine (HN.out _).mono ?_; rintro e w1 ⟨rfl, rfl⟩) | fail)
    have hN := HZ.out
    all_goals
      go_ret
      refine ⟨ret1_b ?_, HB.out _⟩
      try simp only [toList_nil_iff] at *
      rw [Bool.eq_iff_iff, soundB_3]
      try simp only [beq_iff_eq, decide_eq_true_eq, Bool.false_eq_true, Bool.true_eq_false, true_iff, false_iff]
      first | omega | (simp; omega) | (simp_all; done) | (simp_all; omega)
  · have HN := Lib.hid (fun w => numbered_no n w hN)
    have HZ := Lib.hid hN
    clear hN
    go_enter Try.func76, Try.ntmps76
    go_wp2_with (first | (go_at_call 79; refine (HN.out _).mono ?_; rintro e w1 ⟨rfl, rfl⟩) | fail)
    have hN := HZ.out
    all_goals
      go_ret
      refine ⟨ret1_b ?_, HB.out _⟩
      try simp only [toList_nil_iff] at *
      rw [Bool.eq_iff_iff, soundB_3]
      try simp only [beq_iff_eq, decide_eq_true_eq, Bool.false_eq_true, Bool.true_eq_false, true_iff, false_iff]
      first | omega | (simp; omega) | (simp_all; done) | (simp_all; omega)
set_option maxRecDepth 100000 in
set_option maxHeartbeats 4000000 in
theorem rown_4 (n : Int) (s : ByteArray) (l : List Tm) (A : Option Addr) (c : Nat) (w : World) (HB : Hid (∀ o : Obj, Below w.heap.size w (w.alloc o))) (hs : s.size ≤ 9223372036854775807) (hl : l.length ≤ 9223372036854775807) :
    Calls Try.prog 76 #[.agg #[.int .i64 4, .int .i64 n, .string s, .slice A l.length c]] w fun e w' => e = .returned (.bool (soundB (.mk 4 n s l))) ∧ Below w.heap.size w w' := by
  by_cases hN : 0 ≤ n ∧ n ≤ 1073741824
  · have HN := Lib.hid (fun w => numbered_yes n w hN.1 hN.2)
    have HZ := Lib.hid hN
    clear hN
    go_enter Try.func76, Try.ntmps76
    go_wp2_with (first | (go_at_call 79; refine (HN.out _).mono ?_; rintro e w1 ⟨rfl, rfl⟩) | fail)
    have hN := HZ.out
    all_goals
      go_ret
      refine ⟨ret1_b ?_, HB.out _⟩
      try simp only [toList_nil_iff] at *
      rw [Bool.eq_iff_iff, soundB_4]
      try simp only [beq_iff_eq, decide_eq_true_eq, Bool.false_eq_true, Bool.true_eq_false, true_iff, false_iff]
      first | omega | (simp; omega) | (simp_all; done) | (simp_all; omega)
  · have HN := Lib.hid (fun w => numbered_no n w hN)
    have HZ := Lib.hid hN
    clear hN
    go_enter Try.func76, Try.ntmps76
    go_wp2_with (first | (go_at_call 79; refine (HN.out _).mono ?_; rintro e w1 ⟨rfl, rfl⟩) | fail)
    have hN := HZ.out
    all_goals
      go_ret
      refine ⟨ret1_b ?_, HB.out _⟩
      try simp only [toList_nil_iff] at *
      rw [Bool.eq_iff_iff, soundB_4]
      try simp only [beq_iff_eq, decide_eq_true_eq, Bool.false_eq_true, Bool.true_eq_false, true_iff, false_iff]
      first | omega | (simp; omega) | (simp_all; done) | (simp_all; omega)
set_option maxRecDepth 100000 in
set_option maxHeartbeats 4000000 in
theorem rown_5 (n : Int) (s : ByteArray) (l : List Tm) (A : Option Addr) (c : Nat) (w : World) (HB : Hid (∀ o : Obj, Below w.heap.size w (w.alloc o))) (hs : s.size ≤ 9223372036854775807) (hl : l.length ≤ 9223372036854775807) :
    Calls Try.prog 76 #[.agg #[.int .i64 5, .int .i64 n, .string s, .slice A l.length c]] w fun e w' => e = .returned (.bool (soundB (.mk 5 n s l))) ∧ Below w.heap.size w w' := by
  by_cases hN : 0 ≤ n ∧ n ≤ 1073741824
  · have HN := Lib.hid (fun w => numbered_yes n w hN.1 hN.2)
    have HZ := Lib.hid hN
    clear hN
    go_enter Try.func76, Try.ntmps76
    go_wp2_with (first | (go_at_call 79; refine (HN.out _).mono ?_; rintro e w1 ⟨rfl, rfl⟩) | fail)
    have hN := HZ.out
    all_goals
      go_ret
      refine ⟨ret1_b ?_, HB.out _⟩
      try simp only [toList_nil_iff] at *
      rw [Bool.eq_iff_iff, soundB_5]
      try simp only [beq_iff_eq, decide_eq_true_eq, Bool.false_eq_true, Bool.true_eq_false, true_iff, false_iff]
      first | omega | (simp; omega) | (simp_all; done) | (simp_all; omega)
  · have HN := Lib.hid (fun w => numbered_no n w hN)
    have HZ := Lib.hid hN
    clear hN
    go_enter Try.func76, Try.ntmps76
    go_wp2_with (first | (go_at_call 79; refine (HN.out _).mono ?_; rintro e w1 ⟨rfl, rfl⟩) | fail)
    have hN := HZ.out
    all_goals
      go_ret
      refine ⟨ret1_b ?_, HB.out _⟩
      try simp only [toList_nil_iff] at *
      rw [Bool.eq_iff_iff, soundB_5]
      try simp only [beq_iff_eq, decide_eq_true_eq, Bool.false_eq_true, Bool.true_eq_false, true_iff, false_iff]
      first | omega | (simp; omega) | (simp_all; done) | (simp_all; omega)
set_option maxRecDepth 100000 in
set_option maxHeartbeats 4000000 in
theorem rown_6 (n : Int) (s : ByteArray) (l : List Tm) (A : Option Addr) (c : Nat) (w : World) (HB : Hid (∀ o : Obj, Below w.heap.size w (w.alloc o))) (hs : s.size ≤ 9223372036854775807) (hl : l.length ≤ 9223372036854775807) :
    Calls Try.prog 76 #[.agg #[.int .i64 6, .int .i64 n, .string s, .slice A l.length c]] w fun e w' => e = .returned (.bool (soundB (.mk 6 n s l))) ∧ Below w.heap.size w w' := by
  by_cases hN : 0 ≤ n ∧ n ≤ 1073741824
  · have HN := Lib.hid (fun w => numbered_yes n w hN.1 hN.2)
    have HZ := Lib.hid hN
    clear hN
    go_enter Try.func76, Try.ntmps76
    go_wp2_with (first | (go_at_call 79; refine (HN.out _).mono ?_; rintro e w1 ⟨rfl, rfl⟩) | fail)
    have hN := HZ.out
    all_goals
      go_ret
      refine ⟨ret1_b ?_, HB.out _⟩
      try simp only [toList_nil_iff] at *
      rw [Bool.eq_iff_iff, soundB_6]
      try simp only [beq_iff_eq, decide_eq_true_eq, Bool.false_eq_true, Bool.true_eq_false, true_iff, false_iff]
      first | omega | (simp; omega) | (simp_all; done) | (simp_all; omega)
  · have HN := Lib.hid (fun w => numbered_no n w hN)
    have HZ := Lib.hid hN
    clear hN
    go_enter Try.func76, Try.ntmps76
    go_wp2_with (first | (go_at_call 79; refine (HN.out _).mono ?_; rintro e w1 ⟨rfl, rfl⟩) | fail)
    have hN := HZ.out
    all_goals
      go_ret
      refine ⟨ret1_b ?_, HB.out _⟩
      try simp only [toList_nil_iff] at *
      rw [Bool.eq_iff_iff, soundB_6]
      try simp only [beq_iff_eq, decide_eq_true_eq, Bool.false_eq_true, Bool.true_eq_false, true_iff, false_iff]
      first | omega | (simp; omega) | (simp_all; done) | (simp_all; omega)
set_option maxRecDepth 100000 in
set_option maxHeartbeats 4000000 in
theorem rown_7 (n : Int) (s : ByteArray) (l : List Tm) (A : Option Addr) (c : Nat) (w : World) (HB : Hid (∀ o : Obj, Below w.heap.size w (w.alloc o))) (hs : s.size ≤ 9223372036854775807) (hl : l.length ≤ 9223372036854775807) :
    Calls Try.prog 76 #[.agg #[.int .i64 7, .int .i64 n, .string s, .slice A l.length c]] w fun e w' => e = .returned (.bool (soundB (.mk 7 n s l))) ∧ Below w.heap.size w w' := by
  go_enter Try.func76, Try.ntmps76
  go_wp2_with fail
  all_goals
    go_ret
    refine ⟨ret1_b ?_, HB.out _⟩
    try simp only [toList_nil_iff] at *
    rw [Bool.eq_iff_iff, soundB_7]
    try simp only [beq_iff_eq, decide_eq_true_eq, Bool.false_eq_true, Bool.true_eq_false, true_iff, false_iff]
    first | omega | (simp; omega) | (simp_all; done) | (simp_all; omega)
set_option maxRecDepth 100000 in
set_option maxHeartbeats 4000000 in
theorem rown_8 (n : Int) (s : ByteArray) (l : List Tm) (A : Option Addr) (c : Nat) (w : World) (HB : Hid (∀ o : Obj, Below w.heap.size w (w.alloc o))) (hs : s.size ≤ 9223372036854775807) (hl : l.length ≤ 9223372036854775807) :
    Calls Try.prog 76 #[.agg #[.int .i64 8, .int .i64 n, .string s, .slice A l.length c]] w fun e w' => e = .returned (.bool (soundB (.mk 8 n s l))) ∧ Below w.heap.size w w' := by
  go_enter Try.func76, Try.ntmps76
  go_wp2_with fail
  all_goals
    go_ret
    refine ⟨ret1_b ?_, HB.out _⟩
    try simp only [toList_nil_iff] at *
    rw [Bool.eq_iff_iff, soundB_8]
    try simp only [beq_iff_eq, decide_eq_true_eq, Bool.false_eq_true, Bool.true_eq_false, true_iff, false_iff]
    first | omega | (simp; omega) | (simp_all; done) | (simp_all; omega)
set_option maxRecDepth 100000 in
set_option maxHeartbeats 4000000 in
theorem rown_9 (n : Int) (s : ByteArray) (l : List Tm) (A : Option Addr) (c : Nat) (w : World) (HB : Hid (∀ o : Obj, Below w.heap.size w (w.alloc o))) (hs : s.size ≤ 9223372036854775807) (hl : l.length ≤ 9223372036854775807) :
    Calls Try.prog 76 #[.agg #[.int .i64 9, .int .i64 n, .string s, .slice A l.length c]] w fun e w' => e = .returned (.bool (soundB (.mk 9 n s l))) ∧ Below w.heap.size w w' := by
  go_enter Try.func76, Try.ntmps76
  go_wp2_with fail
  all_goals
    go_ret
    refine ⟨ret1_b ?_, HB.out _⟩
    try simp only [toList_nil_iff] at *
    rw [Bool.eq_iff_iff, soundB_9]
    try simp only [beq_iff_eq, decide_eq_true_eq, Bool.false_eq_true, Bool.true_eq_false, true_iff, false_iff]
    first | omega | (simp; omega) | (simp_all; done) | (simp_all; omega)
set_option maxRecDepth 100000 in
set_option maxHeartbeats 4000000 in
theorem rown_any (t : Tm) (v : Value) (w : World) (h : TA w t v) : Calls Try.prog 76 #[v] w fun e w' => e = .returned (.bool (soundB t)) ∧ Below w.heap.size w w' := by
  obtain ⟨k, n, s, l, A, c, rfl, rfl, ok, hl⟩ := h.open_
  have HB := Lib.hid (fun (o : Obj) => ballocs (Below.refl w.heap.size w) o)
  have hs : s.size ≤ 9223372036854775807 := by have := ok.ws; unfold maxLen at this; exact this
  have hll : l.length ≤ 9223372036854775807 := by have := Nat.le_trans ok.hl ok.hc; unfold maxLen at this; exact this
  clear h hl ok
  by_cases h1 : k = 1
  · subst h1; exact rown_1 n s l A c w HB hs hll
  by_cases h2 : k = 2
  · subst h2; exact rown_2 n s l A c w HB hs hll
  by_cases h3 : k = 3
  · subst h3; exact rown_3 n s l A c w HB hs hll
  by_cases h4 : k = 4
  · subst h4; exact rown_4 n s l A c w HB hs hll
  by_cases h5 : k = 5
  · subst h5; exact rown_5 n s l A c w HB hs hll
  by_cases h6 : k = 6
  · subst h6; exact rown_6 n s l A c w HB hs hll
  by_cases h7 : k = 7
  · subst h7; exact rown_7 n s l A c w HB hs hll
  by_cases h8 : k = 8
  · subst h8; exact rown_8 n s l A c w HB hs hll
  by_cases h9 : k = 9
  · subst h9; exact rown_9 n s l A c w HB hs hll
  have HE := Lib.hid (soundB_no (n := n) (s := s) (l := l) h1 h2 h3 h4 h5 h6 h7 h8 h9)
  have b1 : (k == 1) = false := by simpa using h1
  have b2 : (k == 2) = false := by simpa using h2
  have b3 : (k == 3) = false := by simpa using h3
  have b4 : (k == 4) = false := by simpa using h4
  have b5 : (k == 5) = false := by simpa using h5
  have b6 : (k == 6) = false := by simpa using h6
  have b7 : (k == 7) = false := by simpa using h7
  have b8 : (k == 8) = false := by simpa using h8
  have b9 : (k == 9) = false := by simpa using h9
  clear h1 h2 h3 h4 h5 h6 h7 h8 h9
  go_enter Try.func76, Try.ntmps76
  go_wp2_with fail
  go_ret
  exact ⟨ret1_b HE.out.symm, HB.out _⟩
end Go.Proofs.Ytfcialleekfjmaa.K
