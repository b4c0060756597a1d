/- Flatten, Read and Part of a table that is nil, or that nobody made. -/
import Derived.Test.YtfcialleekfjmaaFlPart
namespace Go.Proofs.Ytfcialleekfjmaa.Fl
open Go.RowKit K At Wd
set_option linter.unusedVariables false
set_option linter.unusedSimpArgs false

theorem NoTab.later {w w' : World} {p : Option Addr} (h : NoTab w p) (hb : Below w.heap.size w w') : NoTab w' p := by
  rcases h with rfl | ⟨g, rfl, hc⟩
  · exact .inl rfl
  · exact .inr ⟨g, rfl, (hb.cell (p := ⟨g, 0, none⟩) (World.block_lt_of_cell? _ _ hc)).trans hc⟩
set_option maxRecDepth 100000 in
set_option maxHeartbeats 8000000 in
theorem flatten_no (p : Option Addr) (k n : Int) (s : ByteArray) (A : Option Addr) (m c : Nat) (w : World) (h : NoTab w p) :
    Calls Try.prog 9 #[.pointer p, .agg #[.int .i64 k, .int .i64 n, .string s, .slice A m c]] w fun e w' => e = .returned (.tuple #[.slice none 0 0, .int .i64 1]) ∧ Below w.heap.size w w' := by
  have hb := ballocs (ballocs (Below.refl w.heap.size w) (.cells #[.pointer p] 26)) (.cells #[.int .i64 k, .int .i64 n, .string s, .slice A m c] 24)
  have HNO := Lib.hid (none_no p _ (NoTab.later h hb))
  have HB := Lib.hid hb
  clear h hb
  go_enter Try.func9, Try.ntmps9
  go_wp2_with fail
  refine HNO.out.mono ?_
  rintro e w' ⟨rfl, rfl⟩
  go_wp2_with fail
  go_ret2
  exact ⟨rfl, HB.out⟩
set_option maxRecDepth 100000 in
set_option maxHeartbeats 8000000 in
theorem read_no (p : Option Addr) (A : Option Addr) (m c : Nat) (w : World) (h : NoTab w p) :
    Calls Try.prog 10 #[.pointer p, .slice A m c] w fun e w' => e = .returned (.tuple #[.agg #[.int .i64 0, .int .i64 0, .string ⟨#[]⟩, .slice none 0 0], .int .i64 1]) ∧ Below w.heap.size w w' := by
  obtain ⟨w0, hw0⟩ : ∃ x, w.alloc (.cells #[.int .i64 0, .int .i64 0, .string ⟨#[]⟩, .slice none 0 0] 24) = x := ⟨_, rfl⟩
  have hb0 : Below w.heap.size w w0 := by rw [← hw0]; exact ballocs (Below.refl _ _) _
  have hz0 : Blk w0 w.heap.size 24 tz := by rw [← hw0]; exact Blk.new _ _ _
  have HNO := Lib.hid (none_no p w0 (NoTab.later h hb0))
  have HB0 := Lib.hid hb0; have HZ0 := Lib.hid hz0; have HW0 := Lib.hid hw0
  obtain ⟨z0, z1, z2, z3, y0, y1, y2, y3⟩ := hz0.four
  clear h hb0 hz0 hw0
  go_enter Try.func10, Try.ntmps10
  go_wp2_with fail
  rw [HW0.out]
  refine HNO.out.mono ?_
  rintro e w' ⟨rfl, rfl⟩
  go_wp2_with fail
  obtain ⟨r0, r1, r2, r3, _, _, _, _⟩ := (put4_blk HZ0.out (.int .i64 0) (.int .i64 0) (.string ⟨#[]⟩) (.slice none 0 0)).four
  have hbp := put4_below HB0.out (Nat.le_refl w.heap.size) (.int .i64 0) (.int .i64 0) (.string ⟨#[]⟩) (.slice none 0 0)
  unfold put4 at r0 r1 r2 r3 hbp
  exact bodyPost_ret (v := .tuple #[.agg #[.int .i64 0, .int .i64 0, .string ⟨#[]⟩, .slice none 0 0], .int .i64 1]) (by simp [results, Try.results10, go_sem, r0, r1, r2, r3]) rfl ⟨rfl, hbp⟩
set_option maxRecDepth 100000 in
set_option maxHeartbeats 8000000 in
theorem part_no (p : Option Addr) (A : Option Addr) (m c : Nat) (n : Int) (w : World) (h : NoTab w p) :
    Calls Try.prog 11 #[.pointer p, .slice A m c, .int .i64 n] w fun e w' => e = .returned (.tuple #[.slice none 0 0, .int .i64 1]) ∧ Below w.heap.size w w' := by
  have HR := Lib.hid (read_no p A m c w h)
  clear h
  go_enter Try.func11, Try.ntmps11
  go_wp2_with fail
  refine HR.out.mono ?_
  rintro e w' ⟨rfl, hb⟩
  have HB := Lib.hid (ballocs hb (.cells #[.int .i64 0, .int .i64 0, .string ⟨#[]⟩, .slice none 0 0] 24))
  clear hb
  go_wp2_with fail
  go_ret2
  exact ⟨rfl, HB.out⟩
end Go.Proofs.Ytfcialleekfjmaa.Fl
