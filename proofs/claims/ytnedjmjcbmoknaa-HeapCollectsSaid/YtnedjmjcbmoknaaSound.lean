/- term.own, term.sound; tenureref02.own: by contracts. -/
import Derived.Test.YtnedjmjcbmoknaaTmCopy
namespace Go.Proofs.Ytnedjmjcbmoknaa.K
open Go.RowKit
set_option linter.unusedVariables false
set_option linter.unusedSimpArgs false

theorem toList_nil_iff (s : ByteArray) : s.toList = [] ↔ s.size = 0 := by
  rw [Lib.toList_data]
  obtain ⟨a⟩ := s
  simp [ByteArray.size]
/-- May a term be, but for its parts? -/
def soundK (k n : Int) (q m : Nat) : Bool :=
  if k = 1 then decide (-576460752303423488 ≤ n ∧ n ≤ 576460752303423487 ∧ q = 0 ∧ m = 0)
  else if k = 2 then decide (n = 0 ∧ q ≤ 64 ∧ m = 0)
  else if k = 3 ∨ k = 4 ∨ k = 6 then decide (0 ≤ n ∧ n ≤ 1073741824 ∧ q = 0 ∧ m = 0)
  else if k = 5 then decide (0 ≤ n ∧ n ≤ 1073741824 ∧ q = 0 ∧ m ≤ 64)
  else if k = 7 then decide (n = 0 ∧ q = 0 ∧ m ≤ 64)
  else if k = 8 then decide (n = 0 ∧ q = 0 ∧ m = 0)
  else if k = 9 then decide (n = 0 ∧ q = 0 ∧ m = 2)
  else false
def soundB (t : Tm) : Bool := soundK t.k t.n t.s.size t.l.length

set_option maxRecDepth 100000 in
set_option maxHeartbeats 4000000 in
theorem own_any (t : Tm) (v : Value) (w : World) (h : TA w t v) : Calls Try.prog 47 #[v] w fun e w' => e = .returned (.int .i64 (ownN t)) ∧ Below w.heap.size w w' := by
  obtain ⟨k, n, s, l, A, c, rfl, rfl, ok, hl⟩ := h.open_
  clear h hl ok
  have HB := Lib.hid (fun (o : Obj) => ballocs (Below.refl w.heap.size w) o)
  by_cases h7 : k = 7
  · subst h7
    go_enter Try.func47, Try.ntmps47
    go_wp2_with fail
    go_ret
    exact ⟨ret1_i rfl, HB.out _⟩
  · by_cases h5 : k = 5
    · subst h5
      go_enter Try.func47, Try.ntmps47
      go_wp2_with fail
      go_ret
      exact ⟨ret1_i rfl, HB.out _⟩
    · have HE := Lib.hid (show ownN (.mk k n s l) = 1 from by unfold ownN; rw [if_neg (by simp [h7, h5])])
      have b7 : (k == 7) = false := by simpa using h7
      have b5 : (k == 5) = false := by simpa using h5
      clear h7 h5
      go_enter Try.func47, Try.ntmps47
      go_wp2_with fail
      go_ret
      exact ⟨ret1_i HE.out.symm, HB.out _⟩
theorem soundB_1 (n : Int) (s : ByteArray) (l : List Tm) : soundB (.mk 1 n s l) = true ↔ -576460752303423488 ≤ n ∧ n ≤ 576460752303423487 ∧ s.size = 0 ∧ l.length = 0 := by
  show soundK 1 n s.size l.length = true ↔ _
  unfold soundK
  simp only [Int.reduceEq, if_true, if_false, or_self, or_true, true_or, false_or, or_false, decide_eq_true_eq]
theorem soundB_2 (n : Int) (s : ByteArray) (l : List Tm) : soundB (.mk 2 n s l) = true ↔ n = 0 ∧ s.size ≤ 64 ∧ l.length = 0 := by
  show soundK 2 n s.size l.length = true ↔ _
  unfold soundK
  simp only [Int.reduceEq, if_true, if_false, or_self, or_true, true_or, false_or, or_false, decide_eq_true_eq]
theorem soundB_3 (n : Int) (s : ByteArray) (l : List Tm) : soundB (.mk 3 n s l) = true ↔ 0 ≤ n ∧ n ≤ 1073741824 ∧ s.size = 0 ∧ l.length = 0 := by
  show soundK 3 n s.size l.length = true ↔ _
  unfold soundK
  simp only [Int.reduceEq, if_true, if_false, or_self, or_true, true_or, false_or, or_false, decide_eq_true_eq]
theorem soundB_4 (n : Int) (s : ByteArray) (l : List Tm) : soundB (.mk 4 n s l) = true ↔ 0 ≤ n ∧ n ≤ 1073741824 ∧ s.size = 0 ∧ l.length = 0 := by
  show soundK 4 n s.size l.length = true ↔ _
  unfold soundK
  simp only [Int.reduceEq, if_true, if_false, or_self, or_true, true_or, false_or, or_false, decide_eq_true_eq]
theorem soundB_5 (n : Int) (s : ByteArray) (l : List Tm) : soundB (.mk 5 n s l) = true ↔ 0 ≤ n ∧ n ≤ 1073741824 ∧ s.size = 0 ∧ l.length ≤ 64 := by
  show soundK 5 n s.size l.length = true ↔ _
  unfold soundK
  simp only [Int.reduceEq, if_true, if_false, or_self, or_true, true_or, false_or, or_false, decide_eq_true_eq]
theorem soundB_6 (n : Int) (s : ByteArray) (l : List Tm) : soundB (.mk 6 n s l) = true ↔ 0 ≤ n ∧ n ≤ 1073741824 ∧ s.size = 0 ∧ l.length = 0 := by
  show soundK 6 n s.size l.length = true ↔ _
  unfold soundK
  simp only [Int.reduceEq, if_true, if_false, or_self, or_true, true_or, false_or, or_false, decide_eq_true_eq]
theorem soundB_7 (n : Int) (s : ByteArray) (l : List Tm) : soundB (.mk 7 n s l) = true ↔ n = 0 ∧ s.size = 0 ∧ l.length ≤ 64 := by
  show soundK 7 n s.size l.length = true ↔ _
  unfold soundK
  simp only [Int.reduceEq, if_true, if_false, or_self, or_true, true_or, false_or, or_false, decide_eq_true_eq]
theorem soundB_8 (n : Int) (s : ByteArray) (l : List Tm) : soundB (.mk 8 n s l) = true ↔ n = 0 ∧ s.size = 0 ∧ l.length = 0 := by
  show soundK 8 n s.size l.length = true ↔ _
  unfold soundK
  simp only [Int.reduceEq, if_true, if_false, or_self, or_true, true_or, false_or, or_false, decide_eq_true_eq]
theorem soundB_9 (n : Int) (s : ByteArray) (l : List Tm) : soundB (.mk 9 n s l) = true ↔ n = 0 ∧ s.size = 0 ∧ l.length = 2 := by
  show soundK 9 n s.size l.length = true ↔ _
  unfold soundK
  simp only [Int.reduceEq, if_true, if_false, or_self, or_true, true_or, false_or, or_false, decide_eq_true_eq]
theorem soundB_no {k : Int} {n : Int} {s : ByteArray} {l : List Tm} (h1 : k ≠ 1) (h2 : k ≠ 2) (h3 : k ≠ 3) (h4 : k ≠ 4) (h5 : k ≠ 5) (h6 : k ≠ 6) (h7 : k ≠ 7) (h8 : k ≠ 8) (h9 : k ≠ 9) : soundB (.mk k n s l) = false := by
  show soundK k n s.size l.length = false
  simp [soundK, h1, h2, h3, h4, h5, h6, h7, h8, h9]
set_option maxRecDepth 100000 in
set_option maxHeartbeats 4000000 in
theorem sound_1 (n : Int) (s : ByteArray) (l : List Tm) (A : Option Addr) (c : Nat) (w : World) (HB : Hid (∀ o : Obj, Below w.heap.size w (w.alloc o))) (hs : s.size ≤ 9223372036854775807) (hl : l.length ≤ 9223372036854775807) :
    Calls Try.prog 46 #[.agg #[.int .i64 1, .int .i64 n, .string s, .slice A l.length c]] w fun e w' => e = .returned (.bool (soundB (.mk 1 n s l))) ∧ Below w.heap.size w w' := by
  go_enter Try.func46, Try.ntmps46
  go_wp2_with fail
  all_goals
    go_ret
    refine ⟨ret1_b ?_, HB.out _⟩
    try simp only [toList_nil_iff] at *
    rw [Bool.eq_iff_iff, soundB_1]
    try simp only [beq_iff_eq, decide_eq_true_eq, Bool.false_eq_true, Bool.true_eq_false, true_iff, false_iff]
    first | omega | (simp; omega) | (simp_all; done) | (simp_all; omega)
set_option maxRecDepth 100000 in
set_option maxHeartbeats 4000000 in
theorem sound_2 (n : Int) (s : ByteArray) (l : List Tm) (A : Option Addr) (c : Nat) (w : World) (HB : Hid (∀ o : Obj, Below w.heap.size w (w.alloc o))) (hs : s.size ≤ 9223372036854775807) (hl : l.length ≤ 9223372036854775807) :
    Calls Try.prog 46 #[.agg #[.int .i64 2, .int .i64 n, .string s, .slice A l.length c]] w fun e w' => e = .returned (.bool (soundB (.mk 2 n s l))) ∧ Below w.heap.size w w' := by
  go_enter Try.func46, Try.ntmps46
  go_wp2_with fail
  all_goals
    go_ret
    refine ⟨ret1_b ?_, HB.out _⟩
    try simp only [toList_nil_iff] at *
    rw [Bool.eq_iff_iff, soundB_2]
    try simp only [beq_iff_eq, decide_eq_true_eq, Bool.false_eq_true, Bool.true_eq_false, true_iff, false_iff]
    first | omega | (simp; omega) | (simp_all; done) | (simp_all; omega)
set_option maxRecDepth 100000 in
set_option maxHeartbeats 4000000 in
theorem sound_3 (n : Int) (s : ByteArray) (l : List Tm) (A : Option Addr) (c : Nat) (w : World) (HB : Hid (∀ o : Obj, Below w.heap.size w (w.alloc o))) (hs : s.size ≤ 9223372036854775807) (hl : l.length ≤ 9223372036854775807) :
    Calls Try.prog 46 #[.agg #[.int .i64 3, .int .i64 n, .string s, .slice A l.length c]] w fun e w' => e = .returned (.bool (soundB (.mk 3 n s l))) ∧ Below w.heap.size w w' := by
  go_enter Try.func46, Try.ntmps46
  go_wp2_with fail
  all_goals
    go_ret
    refine ⟨ret1_b ?_, HB.out _⟩
    try simp only [toList_nil_iff] at *
    rw [Bool.eq_iff_iff, soundB_3]
    try simp only [beq_iff_eq, decide_eq_true_eq, Bool.false_eq_true, Bool.true_eq_false, true_iff, false_iff]
    first | omega | (simp; omega) | (simp_all; done) | (simp_all; omega)
set_option maxRecDepth 100000 in
set_option maxHeartbeats 4000000 in
theorem sound_4 (n : Int) (s : ByteArray) (l : List Tm) (A : Option Addr) (c : Nat) (w : World) (HB : Hid (∀ o : Obj, Below w.heap.size w (w.alloc o))) (hs : s.size ≤ 9223372036854775807) (hl : l.length ≤ 9223372036854775807) :
    Calls Try.prog 46 #[.agg #[.int .i64 4, .int .i64 n, .string s, .slice A l.length c]] w fun e w' => e = .returned (.bool (soundB (.mk 4 n s l))) ∧ Below w.heap.size w w' := by
  go_enter Try.func46, Try.ntmps46
  go_wp2_with fail
  all_goals
    go_ret
    refine ⟨ret1_b ?_, HB.out _⟩
    try simp only [toList_nil_iff] at *
    rw [Bool.eq_iff_iff, soundB_4]
    try simp only [beq_iff_eq, decide_eq_true_eq, Bool.false_eq_true, Bool.true_eq_false, true_iff, false_iff]
    first | omega | (simp; omega) | (simp_all; done) | (simp_all; omega)
set_option maxRecDepth 100000 in
set_option maxHeartbeats 4000000 in
theorem sound_5 (n : Int) (s : ByteArray) (l : List Tm) (A : Option Addr) (c : Nat) (w : World) (HB : Hid (∀ o : Obj, Below w.heap.size w (w.alloc o))) (hs : s.size ≤ 9223372036854775807) (hl : l.length ≤ 9223372036854775807) :
    Calls Try.prog 46 #[.agg #[.int .i64 5, .int .i64 n, .string s, .slice A l.length c]] w fun e w' => e = .returned (.bool (soundB (.mk 5 n s l))) ∧ Below w.heap.size w w' := by
  go_enter Try.func46, Try.ntmps46
  go_wp2_with fail
  all_goals
    go_ret
    refine ⟨ret1_b ?_, HB.out _⟩
    try simp only [toList_nil_iff] at *
    rw [Bool.eq_iff_iff, soundB_5]
    try simp only [beq_iff_eq, decide_eq_true_eq, Bool.false_eq_true, Bool.true_eq_false, true_iff, false_iff]
    first | omega | (simp; omega) | (simp_all; done) | (simp_all; omega)
set_option maxRecDepth 100000 in
set_option maxHeartbeats 4000000 in
theorem sound_6 (n : Int) (s : ByteArray) (l : List Tm) (A : Option Addr) (c : Nat) (w : World) (HB : Hid (∀ o : Obj, Below w.heap.size w (w.alloc o))) (hs : s.size ≤ 9223372036854775807) (hl : l.length ≤ 9223372036854775807) :
    Calls Try.prog 46 #[.agg #[.int .i64 6, .int .i64 n, .string s, .slice A l.length c]] w fun e w' => e = .returned (.bool (soundB (.mk 6 n s l))) ∧ Below w.heap.size w w' := by
  go_enter Try.func46, Try.ntmps46
  go_wp2_with fail
  all_goals
    go_ret
    refine ⟨ret1_b ?_, HB.out _⟩
    try simp only [toList_nil_iff] at *
    rw [Bool.eq_iff_iff, soundB_6]
    try simp only [beq_iff_eq, decide_eq_true_eq, Bool.false_eq_true, Bool.true_eq_false, true_iff, false_iff]
    first | omega | (simp; omega) | (simp_all; done) | (simp_all; omega)
set_option maxRecDepth 100000 in
set_option maxHeartbeats 4000000 in
theorem sound_7 (n : Int) (s : ByteArray) (l : List Tm) (A : Option Addr) (c : Nat) (w : World) (HB : Hid (∀ o : Obj, Below w.heap.size w (w.alloc o))) (hs : s.size ≤ 9223372036854775807) (hl : l.length ≤ 9223372036854775807) :
    Calls Try.prog 46 #[.agg #[.int .i64 7, .int .i64 n, .string s, .slice A l.length c]] w fun e w' => e = .returned (.bool (soundB (.mk 7 n s l))) ∧ Below w.heap.size w w' := by
  go_enter Try.func46, Try.ntmps46
  go_wp2_with fail
  all_goals
    go_ret
    refine ⟨ret1_b ?_, HB.out _⟩
    try simp only [toList_nil_iff] at *
    rw [Bool.eq_iff_iff, soundB_7]
    try simp only [beq_iff_eq, decide_eq_true_eq, Bool.false_eq_true, Bool.true_eq_false, true_iff, false_iff]
    first | omega | (simp; omega) | (simp_all; done) | (simp_all; omega)
set_option maxRecDepth 100000 in
set_option maxHeartbeats 4000000 in
theorem sound_8 (n : Int) (s : ByteArray) (l : List Tm) (A : Option Addr) (c : Nat) (w : World) (HB : Hid (∀ o : Obj, Below w.heap.size w (w.alloc o))) (hs : s.size ≤ 9223372036854775807) (hl : l.length ≤ 9223372036854775807) :
    Calls Try.prog 46 #[.agg #[.int .i64 8, .int .i64 n, .string s, .slice A l.length c]] w fun e w' => e = .returned (.bool (soundB (.mk 8 n s l))) ∧ Below w.heap.size w w' := by
  go_enter Try.func46, Try.ntmps46
  go_wp2_with fail
  all_goals
    go_ret
    refine ⟨ret1_b ?_, HB.out _⟩
    try simp only [toList_nil_iff] at *
    rw [Bool.eq_iff_iff, soundB_8]
    try simp only [beq_iff_eq, decide_eq_true_eq, Bool.false_eq_true, Bool.true_eq_false, true_iff, false_iff]
    first | omega | (simp; omega) | (simp_all; done) | (simp_all; omega)
set_option maxRecDepth 100000 in
set_option maxHeartbeats 4000000 in
theorem sound_9 (n : Int) (s : ByteArray) (l : List Tm) (A : Option Addr) (c : Nat) (w : World) (HB : Hid (∀ o : Obj, Below w.heap.size w (w.alloc o))) (hs : s.size ≤ 9223372036854775807) (hl : l.length ≤ 9223372036854775807) :
    Calls Try.prog 46 #[.agg #[.int .i64 9, .int .i64 n, .string s, .slice A l.length c]] w fun e w' => e = .returned (.bool (soundB (.mk 9 n s l))) ∧ Below w.heap.size w w' := by
  go_enter Try.func46, Try.ntmps46
  go_wp2_with fail
  all_goals
    go_ret
    refine ⟨ret1_b ?_, HB.out _⟩
    try simp only [toList_nil_iff] at *
    rw [Bool.eq_iff_iff, soundB_9]
    try simp only [beq_iff_eq, decide_eq_true_eq, Bool.false_eq_true, Bool.true_eq_false, true_iff, false_iff]
    first | omega | (simp; omega) | (simp_all; done) | (simp_all; omega)
set_option maxRecDepth 100000 in
set_option maxHeartbeats 4000000 in
theorem sound_any (t : Tm) (v : Value) (w : World) (h : TA w t v) : Calls Try.prog 46 #[v] w fun e w' => e = .returned (.bool (soundB t)) ∧ Below w.heap.size w w' := by
  obtain ⟨k, n, s, l, A, c, rfl, rfl, ok, hl⟩ := h.open_
  have HB := Lib.hid (fun (o : Obj) => ballocs (Below.refl w.heap.size w) o)
  have hs : s.size ≤ 9223372036854775807 := by have := ok.ws; unfold maxLen at this; exact this
  have hll : l.length ≤ 9223372036854775807 := by have := Nat.le_trans ok.hl ok.hc; unfold maxLen at this; exact this
  clear h hl ok
  by_cases h1 : k = 1
  · subst h1; exact sound_1 n s l A c w HB hs hll
  by_cases h2 : k = 2
  · subst h2; exact sound_2 n s l A c w HB hs hll
  by_cases h3 : k = 3
  · subst h3; exact sound_3 n s l A c w HB hs hll
  by_cases h4 : k = 4
  · subst h4; exact sound_4 n s l A c w HB hs hll
  by_cases h5 : k = 5
  · subst h5; exact sound_5 n s l A c w HB hs hll
  by_cases h6 : k = 6
  · subst h6; exact sound_6 n s l A c w HB hs hll
  by_cases h7 : k = 7
  · subst h7; exact sound_7 n s l A c w HB hs hll
  by_cases h8 : k = 8
  · subst h8; exact sound_8 n s l A c w HB hs hll
  by_cases h9 : k = 9
  · subst h9; exact sound_9 n s l A c w HB hs hll
  have HE := Lib.hid (soundB_no (n := n) (s := s) (l := l) h1 h2 h3 h4 h5 h6 h7 h8 h9)
  have b1 : (k == 1) = false := by simpa using h1
  have b2 : (k == 2) = false := by simpa using h2
  have b3 : (k == 3) = false := by simpa using h3
  have b4 : (k == 4) = false := by simpa using h4
  have b5 : (k == 5) = false := by simpa using h5
  have b6 : (k == 6) = false := by simpa using h6
  have b7 : (k == 7) = false := by simpa using h7
  have b8 : (k == 8) = false := by simpa using h8
  have b9 : (k == 9) = false := by simpa using h9
  clear h1 h2 h3 h4 h5 h6 h7 h8 h9
  go_enter Try.func46, Try.ntmps46
  go_wp2_with fail
  go_ret
  exact ⟨ret1_b HE.out.symm, HB.out _⟩
end Go.Proofs.Ytnedjmjcbmoknaa.K
