/- A heap that is nil, or that nobody made: what Get and Collect answer. -/
import Derived.Test.YtnedjmjcbmoknaaHpNo
import Derived.Test.YtnedjmjcbmoknaaKeep
namespace Go.Proofs.Ytnedjmjcbmoknaa.Hp
open Go.RowKit K At Wd Fl
set_option linter.unusedVariables false
set_option linter.unusedSimpArgs false

section
variable (p : Option Addr) (w : World) (h : NoHeap w p)
include h
set_option maxRecDepth 100000 in
set_option maxHeartbeats 400000 in
theorem get_no (u : Int) : Calls Try.prog 18 #[.pointer p, .int .u64 u] w fun e w' => e = .returned (.tuple #[.agg #[.int .i64 0, .int .i64 0, .string ⟨#[]⟩, .slice none 0 0], .int .i64 1]) ∧ Below w.heap.size w w' := by
  obtain ⟨w0, hw0⟩ : ∃ x, (w.alloc (.cells #[.pointer p] 22)).alloc (.cells #[.int .i64 0, .int .i64 0, .string ⟨#[]⟩, .slice none 0 0] 28) = x := ⟨_, rfl⟩
  have hb0 : Below w.heap.size w w0 := by rw [← hw0]; exact ballocs (ballocs (Below.refl _ _) _) _
  have hr0 : Blk w0 (w.heap.size + 1) 28 #[.int .i64 0, .int .i64 0, .string ⟨#[]⟩, .slice none 0 0] := by
    rw [← hw0]
    have := Blk.new (w.alloc (.cells #[.pointer p] 22)) 28 #[.int .i64 0, .int .i64 0, .string ⟨#[]⟩, .slice none 0 0]
    rw [World.size_alloc] at this
    exact this
  have HN := Lib.hid (hnone_no p w0 (h.later hb0))
  have HB0 := Lib.hid hb0; have HR0 := Lib.hid hr0; have HW0 := Lib.hid hw0
  obtain ⟨r0, r1, r2, r3, s0, s1, s2, s3⟩ := hr0.four
  clear h hb0 hr0 hw0
  go_enter Try.func18, Try.ntmps18
  go_wp2_with fail
  rw [HW0.out]
  refine HN.out.mono ?_
  rintro e w1 ⟨rfl, h1⟩
  obtain rfl : w0 = w1 := h1.symm
  go_wp2_with fail
  obtain ⟨r0, r1, r2, r3, _, _, _, _⟩ := (put4_blk HR0.out (.int .i64 0) (.int .i64 0) (.string ⟨#[]⟩) (.slice none 0 0)).four
  unfold put4 at r0 r1 r2 r3
  try rw [Exit.noGoto_ret]
  refine bodyPost_ret (v := .tuple #[.agg #[.int .i64 0, .int .i64 0, .string ⟨#[]⟩, .slice none 0 0], .int .i64 1]) (by simp [results, Try.results18, go_sem, r0, r1, r2, r3]) rfl ?_
  exact ⟨rfl, put4_below HB0.out (by omega) _ _ _ _⟩
set_option maxRecDepth 100000 in
set_option maxHeartbeats 400000 in
theorem collect_no (v : Value) : Calls Try.prog 15 #[.pointer p, v] w fun e w' => e = .returned (.tuple #[.slice none 0 0, .int .i64 1]) ∧ Below w.heap.size w w' := by
  have hb := ballocs (Below.refl w.heap.size w) (.cells #[.pointer p] 22)
  have HN := Lib.hid (hnone_no p _ (h.later hb))
  have HB := Lib.hid hb
  clear h hb
  go_enter Try.func15, Try.ntmps15
  go_wp2_with fail
  refine HN.out.mono ?_
  rintro e w' ⟨rfl, rfl⟩
  go_wp2_with fail
  go_ret2
  exact ⟨rfl, HB.out⟩
end
end Go.Proofs.Ytnedjmjcbmoknaa.Hp
