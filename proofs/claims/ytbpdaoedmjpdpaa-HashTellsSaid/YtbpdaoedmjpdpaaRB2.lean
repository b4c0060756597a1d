/- tenureref04.Bytes at a kind of terms. -/
import Derived.Test.YtbpdaoedmjpdpaaRBase
namespace Go.Proofs.Ytbpdaoedmjpdpaa.Hs
open Go.RowKit K
set_option linter.unusedVariables false
set_option linter.unusedSimpArgs false

set_option maxRecDepth 100000 in
set_option maxHeartbeats 4000000 in
theorem rb_2 (k0 n0 : Int) (s : ByteArray) (l : List Tm) (A : Option Addr) (c : Nat) (w : World) (ok : TOk (.mk k0 n0 s l) A c) (hl : TsA w A l) (ih : ∀ u ∈ l, RBytesC u) (hN : (bytesT (.mk k0 n0 s l)).length ≤ 1099511627776) (hk : k0 = 2) :
    Calls Try.prog 24 #[.agg #[.int .i64 k0, .int .i64 n0, .string s, .slice A l.length c]] w fun e w' =>
      ∃ v', e = .returned v' ∧ w'.ownsRow w.heap.size 5 1 v' (bytesT (.mk k0 n0 s l)).length (encs8 (bytesT (.mk k0 n0 s l))) ∧ Below w.heap.size w w' := by
  have hll : l.length ≤ 9223372036854775807 := by have := Nat.le_trans ok.hl ok.hc; unfold maxLen at this; exact this
  have hss : s.size ≤ 9223372036854775807 := by have := ok.ws; unfold maxLen at this; exact this
  obtain ⟨w1, hw1⟩ : ∃ w1, w.alloc (.cells #[.int .i64 k0, .int .i64 n0, .string s, .slice A l.length c] 35) = w1 := ⟨_, rfl⟩
  have hz1 : w1.heap.size = w.heap.size + 1 := by rw [← hw1]; simp
  have hbb : Below w.heap.size w w1 := by rw [← hw1]; exact ballocs (Below.refl w.heap.size w) _
  have HR := Lib.hid hbb
  have hg := (show Blk w1 w.heap.size 35 #[.int .i64 k0, .int .i64 n0, .string s, .slice A l.length c] from by rw [← hw1]; exact Blk.new _ _ _)
  have HG := Lib.hid hg
  have HL := Lib.hid (hl.later HR.out)
  have HW := Lib.hid hw1
  have HDONE := Lib.hid (show ∀ v' W', RB w1 (bytesT (.mk k0 n0 s l)) v' W' → W'.ownsRow w.heap.size 5 1 v' (bytesT (.mk k0 n0 s l)).length (encs8 (bytesT (.mk k0 n0 s l))) ∧ Below w.heap.size w W' from fun v' W' h => ⟨ownsRow_base h.1 (fun r e => by have := (h.1.lt r e).1; omega), bnext hbb h.2⟩)
  have hst : RB w1 [b8 k0] (.slice (some ⟨w1.heap.size, 0, none⟩) 1 1) (w1.alloc (.cells #[.int .u8 (k0 % 256)] 5)) := ⟨World.ownsRow_lit (base := w1.heap.size) (e := 5) (size := 1) w1 #[.int .u8 (k0 % 256)] 1 (Nat.le_refl _) (by unfold maxLen; omega) rfl, ballocs (Below.refl _ _) _⟩
  obtain ⟨B0, hB0⟩ : ∃ B0, [b8 k0] = B0 := ⟨_, rfl⟩
  have hB1 : B0.length = 1 := by rw [← hB0]; rfl
  have HX0 := Lib.hid (show bytesT (.mk k0 n0 s l) = B0 ++ (midB k0 n0 s ++ (lenB k0 l.length ++ if hasB (.mk k0 n0 s l) = true then bytesL l else [])) from by rw [bytesT_mk, ← hB0]; rfl)
  rw [hB0] at hst
  have HST := Lib.hid hst
  have HN := Lib.hid hN
  have HIH := Lib.hid ih
  have HCL := Lib.hid (show ∀ W, Below w1.heap.size w1 W → Blk W w.heap.size 35 #[.int .i64 k0, .int .i64 n0, .string s, .slice A l.length c] from fun W hb => hg.below hb hg.lt)
  have p0 := hg.cell 0; have p1 := hg.cell 1; have p2 := hg.cell 2; have p3 := hg.cell 3
  clear hl ok hw1 hg hbb hst hN ih hB0
  subst hk
  have HFULL := Lib.hid (show bytesT (.mk 2 n0 s l) = B0 ++ [b8 (s.size : Int)] ++ strB s from by rw [HX0.out, show midB 2 n0 s = b8 (s.size : Int) :: strB s from rfl, show lenB 2 l.length = [] from rfl, show hasB (.mk 2 n0 s l) = false from rfl]; simp)
  obtain ⟨v7, w7, hrun7, hrb7⟩ := HST.out.one (b8 (s.size : Int)) (by omega)
  have hlen7 : (B0 ++ [b8 (s.size : Int)]).length = 2 := by rw [List.length_append, hB1]; rfl
  have hle : 2 + s.size ≤ 1099511627776 := by
    have h1 := HN.out
    rw [HFULL.out, List.length_append, hlen7, strB_len2] at h1
    exact h1
  obtain ⟨v8, w8, hrun8, hrb8⟩ := hrb7.str s (by omega)
  rw [← HFULL.out] at hrb8
  obtain ⟨x0, x1, x2, x3, _, _, _, _⟩ := (HCL.out _ hrb7.2).four
  obtain ⟨y0, y1, y2, y3, _, _, _, _⟩ := (HCL.out _ hrb8.2).four
  obtain ⟨A7, c7, rfl⟩ := hrb7.form
  rw [hlen7] at hrun7 hrun8
  rw [← HW.out] at hrun7
  simp only [World.size_alloc, Int.reduceMod, b8_val] at hrun7
  have HRUN7 := Lib.hid hrun7
  have HRUN8 := Lib.hid hrun8
  have HRB8 := Lib.hid hrb8
  clear hrun7 hrun8 hrb7 hrb8
  rw [← HW.out] at p0 p1 p2 p3
  go_enter Try.func24, Try.ntmps24
  go_wp2_with (first | (at_builtin; refine wpList_append_run2 (o := ⟨some 41, _, _, _, _, _⟩) (.tmp 35) (.tmp 40) 23 23 _ _ _ HRUN7.out rfl rfl rfl rfl ?_) | (at_builtin; refine wpList_append_run2 (o := ⟨some 45, _, _, _, _, _⟩) (.tmp 42) (.tmp 44) 23 9 _ _ _ HRUN8.out rfl rfl rfl rfl ?_) | fail)
  go_ret
  exact ⟨_, rfl, HDONE.out _ _ HRB8.out⟩
end Go.Proofs.Ytbpdaoedmjpdpaa.Hs
