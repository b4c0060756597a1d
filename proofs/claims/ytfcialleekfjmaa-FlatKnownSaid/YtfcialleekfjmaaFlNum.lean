/- flat.none and flat.number, by contracts. -/
import Derived.Test.YtfcialleekfjmaaFlSt
namespace Go.Proofs.Ytfcialleekfjmaa.Fl
open Go.RowKit K At
set_option linter.unusedVariables false
set_option linter.unusedSimpArgs false

set_option maxRecDepth 100000 in
set_option maxHeartbeats 4000000 in
theorem none_tab (g : Nat) (L : List ByteArray) (w : World) (F : Nat → Prop) (hT : Tab w F g L) : Calls Try.prog 35 #[.pointer (some ⟨g, 0, none⟩)] w fun e w' => e = .returned (.bool false) ∧ w = w' := by
  have H := Lib.hid (name_no g L (-1) w F hT (.inl (by decide)))
  clear hT
  go_enter Try.func35, Try.ntmps35
  go_wp2_with (first | (go_at_call 55; refine H.out.mono ?_; rintro e w1 ⟨rfl, rfl⟩))
  go_ret
  exact ⟨ret1_b rfl, rfl⟩
set_option maxRecDepth 100000 in
set_option maxHeartbeats 4000000 in
theorem none_no (p : Option Addr) (w : World) (h : NoTab w p) : Calls Try.prog 35 #[.pointer p] w fun e w' => e = .returned (.bool true) ∧ w = w' := by
  have H := Lib.hid (name_none p (-1) w h)
  clear h
  go_enter Try.func35, Try.ntmps35
  go_wp2_with (first | (go_at_call 55; refine H.out.mono ?_; rintro e w1 ⟨rfl, rfl⟩))
  go_ret
  exact ⟨ret1_b rfl, rfl⟩
set_option maxRecDepth 100000 in
set_option maxHeartbeats 4000000 in
theorem number_leaf (p : Value) (k n : Int) (s : ByteArray) (A : Option Addr) (m c : Nat) (w : World) (h2 : k ≠ 2) (h8 : k = 8 → n = 0) :
    Calls Try.prog 39 #[p, .agg #[.int .i64 k, .int .i64 n, .string s, .slice A m c]] w fun e w' => e = .returned (.tuple #[.int .i64 n, .int .i64 0]) ∧ Below w.heap.size w w' := by
  have HB := Lib.hid (fun (o : Obj) => ballocs (Below.refl w.heap.size w) o)
  have b2 : (k == 2) = false := by simpa using h2
  by_cases e8 : k = 8
  · subst e8
    obtain rfl := h8 rfl
    clear h8 h2
    go_enter Try.func39, Try.ntmps39
    go_wp2_with fail
    go_ret2
    exact ⟨ret2_ii rfl rfl, HB.out _⟩
  · have b8 : (k == 8) = false := by simpa using e8
    clear h8 h2 e8
    go_enter Try.func39, Try.ntmps39
    go_wp2_with fail
    go_ret2
    exact ⟨ret2_ii rfl rfl, HB.out _⟩
set_option maxRecDepth 100000 in
set_option maxHeartbeats 4000000 in
theorem number_sym (n : Int) (s : ByteArray) (A : Option Addr) (m c : Nat) (w : World) (M : Nat → Prop) (B g gO : Nat) (L : List ByteArray) (O : List Int) (h : Fs w M B g gO L O) (hs : s.size ≤ 64) :
    Calls Try.prog 39 #[.pointer (some ⟨g, 0, none⟩), .agg #[.int .i64 2, .int .i64 n, .string s, .slice A m c]] w fun e w' => e = .returned (.tuple #[.int .i64 (inN L s), .int .i64 (inE L s)]) ∧ FMoved w M B g gO (inL L s) O w' := by
  have HI := Lib.hid (show Calls Try.prog 45 #[.pointer (some ⟨g, 0, none⟩), .string s] (w.alloc (.cells #[.int .i64 2, .int .i64 n, .string s, .slice A m c] 24)) (fun e w' => e = .returned (.tuple #[.int .i64 (inN L s), .int .i64 (inE L s)]) ∧ FMoved w M B g gO (inL L s) O w') from by
    have hb := ballocs (Below.refl w.heap.size w) (.cells #[.int .i64 2, .int .i64 n, .string s, .slice A m c] 24)
    obtain ⟨F, hT, hM⟩ := (h.below hb).tab
    refine (intern_any g L s _ F hT (by unfold maxLen; omega)).mono ?_
    rintro e w' ⟨rfl, hm⟩
    exact ⟨rfl, (hM _ _ hm).from_ hb⟩)
  clear h
  go_enter Try.func39, Try.ntmps39
  go_wp2_with (first | (go_at_call 45; refine HI.out.mono ?_; rintro e w1 ⟨rfl, hm⟩))
  go_ret2
  exact ⟨ret2_ii rfl rfl, hm⟩
end Go.Proofs.Ytfcialleekfjmaa.Fl
