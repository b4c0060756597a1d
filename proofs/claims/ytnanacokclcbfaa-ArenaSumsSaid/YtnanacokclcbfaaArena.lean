/- The package arena's functions, each by its contract. -/
import Derived.Test.YtnanacokclcbfaaArenaSpec
import Derived.Test.YtnanacokclcbfaaRounds
import Derived.Test.YtnanacokclcbfaaCloneU64
import Derived.Outline
import Derived.Deep.QuietTactic
import Derived.BigQuiet
import Derived.Deep.RegionHeld3
import Derived.WalkLawsBesides
import Derived.WalkSpells
namespace Go.Proofs.Ytnanacokclcbfaa.Ar
open Go.RowKit K
set_option linter.unusedVariables false
set_option linter.unusedSimpArgs false

theorem none_no (g : Nat) (bm : Nat) (w : World) (h : w.cell? ⟨g, 3, none⟩ = some (.map (some bm))) :
    Calls Try.prog 27 #[.pointer (some ⟨g, 0, none⟩)] w fun e w' => e = .returned (.bool false) ∧ w = w' := by
  have hm := fun (w : World) => run_eql_map_nil (P := Try.prog) w 49 3 32 (some bm) Try.underlying49
  go_enter Try.func27, Try.ntmps27
  go_wp2
  go_ret
  exact ⟨ret1_b rfl, rfl⟩

theorem law : Go.Maps.Keyed Try.prog 3 := Go.Maps.int_keyed Try.underlying3
theorem zeroS (w : World) : (zeroValue 32).run Try.prog w = .ok sl0 w := by kernel_rfl

/-! ### New -/
def Made (w : World) (all : Nat) (e : Ending) (w' : World) : Prop :=
  ∃ g, e = .returned (.tuple #[.pointer (some ⟨g, 0, none⟩), .int .i64 0]) ∧ AR w' (fun k => w.heap.size ≤ k ∧ k < w'.heap.size) g all 0 [] ∧ Below w.heap.size w w'
theorem new_yes (all : Nat) (h1 : 1 ≤ all) (h2 : all ≤ 16777216) (w : World) : Calls Try.prog 12 #[.int .i64 (all : Int)] w (Made w all) := by
  have hmm := @run_makeMap Try.prog
  have c1 : (1 : Int) ≤ (all : Int) := by omega
  have c2 : (all : Int) ≤ 16777216 := by omega
  go_enter Try.func12, Try.ntmps12
  go_wp2
  go_ret2
  refine ⟨w.heap.size + 1, rfl, ⟨w.heap.size, .map [], fun k hk => hk.2, by simp, by simp; omega, ?_, ?_, mapIs_nil _ _, h2, by simp [used], by simp, LenOk.nil⟩, ?_⟩
  · have := Blk.new (w.alloc (.map #[] 0)) 51 #[.int .i64 (all : Int), .int .i64 0, .int .i64 0, .map (some w.heap.size)]
    simpa [used] using this
  · exact (World.ownsMap_made w _ _ _).alloc _
  · exact ((Below.refl _ _).alloc (Nat.le_refl _) _).alloc (by simp) _
theorem new_no (n : Int) (hn : (Lit.int .i64 n).wf = true) (h : n < 1 ∨ 16777216 < n) (w : World) :
    Calls Try.prog 12 #[.int .i64 n] w fun e w' => e = .returned (.tuple #[.pointer none, .int .i64 2]) ∧ w = w' := by
  obtain ⟨n1, n2⟩ := bounds_i64 hn
  by_cases h1 : n < 1
  · clear h
    go_enter Try.func12, Try.ntmps12
    go_wp2
    go_ret2
    exact ⟨rfl, rfl⟩
  · have h2 : 16777216 < n := by omega
    clear h
    go_enter Try.func12, Try.ntmps12
    go_wp2
    go_ret2
    exact ⟨rfl, rfl⟩

/-! ### find -/
set_option maxRecDepth 100000 in
theorem find_yes (g bm n : Nat) (D : DataW Value) (k : Int) (v : Value) (w : World) (c3 : w.cell? ⟨g, 3, none⟩ = some (.map (some bm))) (hM : w.ownsMap Try.prog 3 RV bm n D)
    (hk : (Lit.int .i64 k).wf = true) (hh : Maps.has D (.int .i64 k) = true) (ha : D.atKey (.int .i64 k) (.held sl0) = .held v) :
    Calls Try.prog 29 #[.pointer (some ⟨g, 0, none⟩), .int .i64 k] w fun e w' => e = .returned (.tuple #[v, .int .i64 0]) ∧ w = w' := by
  have HA := Lib.hid ha
  clear ha
  have hkey : keyOf Try.prog 3 (.int .i64 k) = some (.int .i64 k) := by
    exact Go.Maps.keyOf_int_mk Try.underlying3 hk
  go_enter Try.func29, Try.ntmps29
  go_wp2_with (first
    | (go_at_call 27; refine (none_no g bm _ c3).mono ?_; rintro e w1 ⟨rfl, rfl⟩)
    | (at_lookup; refine wpList_lookup_own_ok _ rfl _ _ 49 rfl 3 32 law Try.underlying49 RV (zeroS _) (.held sl0) [] rfl bm n D rfl hM _ _ rfl hkey ?_; intro v1 ps1 hv1
       obtain rfl : v1 = v := by
         rw [HA.out] at hv1
         injection hv1 with hv1
         injection hv1 with hv1
         injection hv1
       clear hv1))
  go_ret2
  exact ⟨rfl, rfl⟩
set_option maxRecDepth 100000 in
theorem find_no (g bm n : Nat) (D : DataW Value) (k : Int) (w : World) (c3 : w.cell? ⟨g, 3, none⟩ = some (.map (some bm))) (hM : w.ownsMap Try.prog 3 RV bm n D)
    (hk : (Lit.int .i64 k).wf = true) (hh : Maps.has D (.int .i64 k) = false) :
    Calls Try.prog 29 #[.pointer (some ⟨g, 0, none⟩), .int .i64 k] w fun e w' => e = .returned (.tuple #[.slice none 0 0, .int .i64 6]) ∧ w = w' := by
  have hkey : keyOf Try.prog 3 (.int .i64 k) = some (.int .i64 k) := Go.Maps.keyOf_int_mk Try.underlying3 hk
  go_enter Try.func29, Try.ntmps29
  go_wp2_with (first
    | (go_at_call 27; refine (none_no g bm _ c3).mono ?_; rintro e w1 ⟨rfl, rfl⟩)
    | (at_lookup; refine wpList_lookup_own_ok _ rfl _ _ 49 rfl 3 32 law Try.underlying49 RV (zeroS _) (.held sl0) [] rfl bm n D rfl hM _ _ rfl hkey ?_; intro v1 ps1 hv1; clear hv1))
  go_ret2
  exact ⟨rfl, rfl⟩
end Go.Proofs.Ytnanacokclcbfaa.Ar
