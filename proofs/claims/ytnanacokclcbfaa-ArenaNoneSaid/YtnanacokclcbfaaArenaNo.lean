/- What an arena answers that is nil, or that nobody made: each function by its contract. -/
import Derived.Test.YtnanacokclcbfaaLaw08
namespace Go.Proofs.Ytnanacokclcbfaa.Ar
open Go.RowKit K
set_option linter.unusedVariables false
set_option linter.unusedSimpArgs false

/-- A pointer to no arena: nil, or a block whose map is nil. -/
def NoAr (w : World) (p : Option Addr) : Prop := p = none ∨ ∃ g, p = some ⟨g, 0, none⟩ ∧ w.cell? ⟨g, 3, none⟩ = some (.map none)
theorem none_yes (p : Option Addr) (w : World) (h : NoAr w p) :
    Calls Try.prog 27 #[.pointer p] w fun e w' => e = .returned (.bool true) ∧ w = w' := by
  rcases h with rfl | ⟨g, rfl, hc⟩
  · go_enter Try.func27, Try.ntmps27
    go_wp2
    go_ret
    exact ⟨ret1_b rfl, rfl⟩
  · have hm := fun (w : World) => run_eql_map_nil (P := Try.prog) w 49 3 32 none Try.underlying49
    go_enter Try.func27, Try.ntmps27
    go_wp2
    go_ret
    exact ⟨ret1_b rfl, rfl⟩
theorem take_none (p : Option Addr) (A : Option Addr) (m c : Nat) (hm : m ≤ maxLen) (w : World) (h : NoAr w p) :
    Calls Try.prog 14 #[.pointer p, .slice A m c] w fun e w' => e = .returned (.tuple #[.int .i64 0, .int .i64 1]) ∧ w = w' := by
  have H := Lib.hid h; clear h
  have hm2 : m ≤ 9223372036854775807 := by unfold maxLen at hm; exact hm
  have HR := Lib.hid (fun w => round_any (m : Int) (WalkArith.wf_i64 (by omega)) w)
  go_enter Try.func14, Try.ntmps14
  go_wp2_with (first
    | (go_at_call 9; refine (HR.out _).mono ?_; rintro e w1 ⟨rfl, rfl⟩)
    | (go_at_call 27; refine (none_yes p _ H.out).mono ?_; rintro e w1 ⟨rfl, rfl⟩))
  go_ret2
  exact ⟨ret2_ii rfl rfl, rfl⟩
theorem find_none (p : Option Addr) (k : Int) (w : World) (h : NoAr w p) :
    Calls Try.prog 29 #[.pointer p, .int .i64 k] w fun e w' => e = .returned (.tuple #[.slice none 0 0, .int .i64 1]) ∧ w = w' := by
  have H := Lib.hid h; clear h
  go_enter Try.func29, Try.ntmps29
  go_wp2_with (go_at_call 27; refine (none_yes p _ H.out).mono ?_; rintro e w1 ⟨rfl, rfl⟩)
  go_ret2
  exact ⟨rfl, rfl⟩
theorem get_none (p : Option Addr) (k : Int) (w : World) (h : NoAr w p) :
    Calls Try.prog 18 #[.pointer p, .int .i64 k] w fun e w' => ∃ v, e = .returned (.tuple #[v, .int .i64 1]) ∧ Below w.heap.size w w' := by
  have H := Lib.hid h; clear h
  have HC := Lib.hid (clone_u64 none 0 0 w.heap.size [] w Reads.none_ (Nat.le_refl _) (by simp) (by omega) (fun _ => rfl))
  go_enter Try.func18, Try.ntmps18
  go_wp2_with (first
    | (go_at_call 29; refine (find_none p k _ H.out).mono ?_; rintro e w1 ⟨rfl, rfl⟩)
    | (go_at_call 28; refine HC.out.mono ?_; rintro e w2 ⟨v2, rfl, hR2, hb2⟩))
  go_ret2
  exact ⟨_, rfl, hb2⟩
theorem set_none (p : Option Addr) (k : Int) (A : Option Addr) (m c : Nat) (w : World) (h : NoAr w p) :
    Calls Try.prog 19 #[.pointer p, .int .i64 k, .slice A m c] w fun e w' => e = .returned (.int .i64 1) ∧ w = w' := by
  have H := Lib.hid h; clear h
  go_enter Try.func19, Try.ntmps19
  go_wp2_with (go_at_call 29; refine (find_none p k _ H.out).mono ?_; rintro e w1 ⟨rfl, rfl⟩)
  go_ret
  exact ⟨rfl, rfl⟩
theorem drop_none (p : Option Addr) (k : Int) (w : World) (h : NoAr w p) :
    Calls Try.prog 15 #[.pointer p, .int .i64 k] w fun e w' => e = .returned (.int .i64 1) ∧ w = w' := by
  have H := Lib.hid h; clear h
  go_enter Try.func15, Try.ntmps15
  go_wp2_with (go_at_call 29; refine (find_none p k _ H.out).mono ?_; rintro e w1 ⟨rfl, rfl⟩)
  go_ret
  exact ⟨rfl, rfl⟩
theorem left_none (p : Option Addr) (w : World) (h : NoAr w p) :
    Calls Try.prog 22 #[.pointer p] w fun e w' => e = .returned (.int .i64 0) ∧ w = w' := by
  have H := Lib.hid h; clear h
  go_enter Try.func22, Try.ntmps22
  go_wp2_with (go_at_call 27; refine (none_yes p _ H.out).mono ?_; rintro e w1 ⟨rfl, rfl⟩)
  go_ret
  exact ⟨rfl, rfl⟩
theorem used_none (p : Option Addr) (w : World) (h : NoAr w p) :
    Calls Try.prog 23 #[.pointer p] w fun e w' => e = .returned (.int .i64 0) ∧ w = w' := by
  have H := Lib.hid h; clear h
  go_enter Try.func23, Try.ntmps23
  go_wp2_with (go_at_call 27; refine (none_yes p _ H.out).mono ?_; rintro e w1 ⟨rfl, rfl⟩)
  go_ret
  exact ⟨rfl, rfl⟩
theorem blocks_none (p : Option Addr) (w : World) (h : NoAr w p) :
    Calls Try.prog 17 #[.pointer p] w fun e w' => e = .returned (.slice none 0 0) ∧ w = w' := by
  have H := Lib.hid h; clear h
  go_enter Try.func17, Try.ntmps17
  go_wp2_with (go_at_call 27; refine (none_yes p _ H.out).mono ?_; rintro e w1 ⟨rfl, rfl⟩)
  go_ret
  exact ⟨rfl, rfl⟩
end Go.Proofs.Ytnanacokclcbfaa.Ar
