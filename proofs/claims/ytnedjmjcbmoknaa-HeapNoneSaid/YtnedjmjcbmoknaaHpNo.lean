/- A heap that is nil, or that nobody made: what its functions answer. -/
import Derived.Test.YtnedjmjcbmoknaaFlFlat
import Derived.Test.YtnedjmjcbmoknaaLeaf
namespace Go.Proofs.Ytnedjmjcbmoknaa.Hp
open Go.RowKit K At Wd Fl
set_option linter.unusedVariables false
set_option linter.unusedSimpArgs false

/-- No heap: nil, or one that nobody made. -/
def NoHeap (w : World) (p : Option Addr) : Prop := p = none ∨ ∃ g, p = some ⟨g, 0, none⟩ ∧ w.cell? ⟨g, 3, none⟩ = some (.map none)
theorem NoHeap.later {w w' : World} {p : Option Addr} (h : NoHeap w p) (hb : Below w.heap.size w w') : NoHeap w' p := by
  rcases h with rfl | ⟨g, rfl, hc⟩
  · exact .inl rfl
  · exact .inr ⟨g, rfl, (hb.cell (p := ⟨g, 3, none⟩) (World.block_lt_of_cell? _ _ hc)).trans hc⟩
set_option maxRecDepth 100000 in
set_option maxHeartbeats 4000000 in
theorem hnone_no (p : Option Addr) (w : World) (h : NoHeap w p) : Calls Try.prog 30 #[.pointer p] w fun e w' => e = .returned (.bool true) ∧ w' = w := by
  rcases h with rfl | ⟨g, rfl, hc⟩
  · go_enter Try.func30, Try.ntmps30
    go_wp2_with fail
    go_ret
    exact ⟨rfl, rfl⟩
  · have hm := fun (w : World) => run_eql_map_nil (P := Try.prog) w 60 3 3 none Try.underlying60
    go_enter Try.func30, Try.ntmps30
    go_wp2_with fail
    go_ret
    exact ⟨rfl, rfl⟩
set_option maxRecDepth 100000 in
set_option maxHeartbeats 4000000 in
theorem hnone_yes (g bm : Nat) (w : World) (hc : w.cell? ⟨g, 3, none⟩ = some (.map (some bm))) : Calls Try.prog 30 #[.pointer (some ⟨g, 0, none⟩)] w fun e w' => e = .returned (.bool false) ∧ w' = w := by
  have hm := fun (w : World) => run_eql_map_nil (P := Try.prog) w 60 3 3 (some bm) Try.underlying60
  go_enter Try.func30, Try.ntmps30
  go_wp2_with fail
  go_ret
  exact ⟨rfl, rfl⟩
section
variable (p : Option Addr) (w : World) (h : NoHeap w p)
include h
set_option maxRecDepth 100000 in
set_option maxHeartbeats 4000000 in
theorem put_no (k n : Int) (s : ByteArray) (A : Option Addr) (m c : Nat) : Calls Try.prog 14 #[.pointer p, .agg #[.int .i64 k, .int .i64 n, .string s, .slice A m c]] w fun e w' => e = .returned (.tuple #[.int .u64 0, .int .i64 1]) ∧ Below w.heap.size w w' := by
  have hb := ballocs (Below.refl w.heap.size w) (.cells #[.int .i64 k, .int .i64 n, .string s, .slice A m c] 28)
  have HN := Lib.hid (hnone_no p _ (h.later hb))
  have HB := Lib.hid hb
  clear h hb
  go_enter Try.func14, Try.ntmps14
  go_wp2_with fail
  refine HN.out.mono ?_
  rintro e w' ⟨rfl, rfl⟩
  go_wp2_with fail
  go_ret2
  exact ⟨rfl, HB.out⟩
set_option maxRecDepth 100000 in
set_option maxHeartbeats 4000000 in
theorem tuple_no (v : Value) : Calls Try.prog 19 #[.pointer p, v] w fun e w' => e = .returned (.tuple #[.int .u64 0, .int .i64 1]) ∧ w' = w := by
  have HN := Lib.hid (hnone_no p _ h)
  clear h
  go_enter Try.func19, Try.ntmps19
  go_wp2_with fail
  refine HN.out.mono ?_
  rintro e w' ⟨rfl, rfl⟩
  go_wp2_with fail
  go_ret2
  exact ⟨rfl, rfl⟩
set_option maxRecDepth 100000 in
set_option maxHeartbeats 4000000 in
theorem cons_no (x y : Value) : Calls Try.prog 10 #[.pointer p, x, y] w fun e w' => e = .returned (.tuple #[.int .u64 0, .int .i64 1]) ∧ w' = w := by
  have HN := Lib.hid (hnone_no p _ h)
  clear h
  go_enter Try.func10, Try.ntmps10
  go_wp2_with fail
  refine HN.out.mono ?_
  rintro e w' ⟨rfl, rfl⟩
  go_wp2_with fail
  go_ret2
  exact ⟨rfl, rfl⟩
set_option maxRecDepth 100000 in
set_option maxHeartbeats 4000000 in
theorem fun_no (x y : Value) : Calls Try.prog 28 #[.pointer p, x, y] w fun e w' => e = .returned (.tuple #[.int .u64 0, .int .i64 1]) ∧ w' = w := by
  have HN := Lib.hid (hnone_no p _ h)
  clear h
  go_enter Try.func28, Try.ntmps28
  go_wp2_with fail
  refine HN.out.mono ?_
  rintro e w' ⟨rfl, rfl⟩
  go_wp2_with fail
  go_ret2
  exact ⟨rfl, rfl⟩
set_option maxRecDepth 100000 in
set_option maxHeartbeats 4000000 in
theorem hparts_no (x : Value) : Calls Try.prog 20 #[.pointer p, x] w fun e w' => e = .returned (.tuple #[.slice none 0 0, .int .i64 1]) ∧ w' = w := by
  have HN := Lib.hid (hnone_no p _ h)
  clear h
  go_enter Try.func20, Try.ntmps20
  go_wp2_with fail
  refine HN.out.mono ?_
  rintro e w' ⟨rfl, rfl⟩
  go_wp2_with fail
  go_ret2
  exact ⟨rfl, rfl⟩
set_option maxRecDepth 100000 in
set_option maxHeartbeats 4000000 in
theorem used_no : Calls Try.prog 17 #[.pointer p] w fun e w' => e = .returned (.int .i64 0) ∧ w' = w := by
  have HN := Lib.hid (hnone_no p _ h)
  clear h
  go_enter Try.func17, Try.ntmps17
  go_wp2_with fail
  refine HN.out.mono ?_
  rintro e w' ⟨rfl, rfl⟩
  go_wp2_with fail
  go_ret
  exact ⟨rfl, rfl⟩
set_option maxRecDepth 100000 in
set_option maxHeartbeats 4000000 in
theorem limit_no : Calls Try.prog 29 #[.pointer p] w fun e w' => e = .returned (.int .i64 0) ∧ w' = w := by
  have HN := Lib.hid (hnone_no p _ h)
  clear h
  go_enter Try.func29, Try.ntmps29
  go_wp2_with fail
  refine HN.out.mono ?_
  rintro e w' ⟨rfl, rfl⟩
  go_wp2_with fail
  go_ret
  exact ⟨rfl, rfl⟩
set_option maxRecDepth 100000 in
set_option maxHeartbeats 4000000 in
theorem words_no : Calls Try.prog 21 #[.pointer p] w fun e w' => e = .returned (.slice none 0 0) ∧ w' = w := by
  have HN := Lib.hid (hnone_no p _ h)
  clear h
  go_enter Try.func21, Try.ntmps21
  go_wp2_with fail
  refine HN.out.mono ?_
  rintro e w' ⟨rfl, rfl⟩
  go_wp2_with fail
  go_ret
  exact ⟨rfl, rfl⟩
end
set_option maxRecDepth 100000 in
set_option maxHeartbeats 4000000 in
theorem new_no (p : Option Addr) (n : Int) (w : World) (h : NoTab w p) : Calls Try.prog 22 #[.pointer p, .int .i64 n] w fun e w' => e = .returned (.tuple #[.pointer none, .int .i64 1]) ∧ w' = w := by
  have HN := Lib.hid (name_none p (-1) w h)
  clear h
  go_enter Try.func22, Try.ntmps22
  go_wp2_with fail
  refine HN.out.mono ?_
  rintro e w' ⟨rfl, rfl⟩
  go_wp2_with fail
  go_ret2
  exact ⟨rfl, rfl⟩
end Go.Proofs.Ytnedjmjcbmoknaa.Hp
