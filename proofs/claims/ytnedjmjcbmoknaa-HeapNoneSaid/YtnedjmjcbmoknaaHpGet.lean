/- Get's build at words that are no boxes, by its contract. -/
import Derived.Test.YtnedjmjcbmoknaaHpGetA
namespace Go.Proofs.Ytnedjmjcbmoknaa.Hp
open Go.RowKit K At Wd Fl
set_option linter.unusedVariables false
set_option linter.unusedSimpArgs false

set_option maxRecDepth 100000 in
set_option maxHeartbeats 400000 in
theorem build_leaf (k x : Int) (hlf : leafK k) (u n : Int) (w : World) (F : Nat → Prop) (gh g : Nat) (L : List ByteArray) (lim : Int) (H : List It) (gl gp gb : Nat) (hE : GE w F gh g L lim H gl gp gb) (hL : Blk w gl 3 #[.int .i64 n]) (hu : U64 u) (hk : unK u = k) (hn : unN u = x) (hy : unE u = 0) (h1 : 1 ≤ n) (h6 : n ≤ 65536) : Calls Try.prog 41 #[.int .u64 u, .pointer (some ⟨gl, 0, none⟩), .pointer (some ⟨gp, 0, none⟩), .pointer (some ⟨gb, 0, none⟩)] w (BP w gl (.mk k x ⟨#[]⟩ []) n) := by
  obtain ⟨r1, r2, _⟩ := un_range hu
  rw [hk] at r1
  rw [hn] at r2
  have HWF := Lib.hid (And.intro r1 r2)
  unfold leafK at hlf
  have b2 : (k == 2) = false := by simp; omega
  have b7 : (k == 7) = false := by simp; omega
  have b5 : (k == 5) = false := by simp; omega
  have b9 : (k == 9) = false := by simp; omega
  have HWD := Lib.hid (show wds (.mk k x ⟨#[]⟩ []) = 1 from by rw [wds_mk]; unfold ownN; rw [if_neg (by simp only [Tm.k_mk]; omega)]; split <;> simp [wdsL_nil])
  clear hlf r1 r2
  have HUN := Lib.hid (fun w => unpack_as hu hk hn hy w)
  have hgl : gl < w.heap.size := hL.lt
  have hz := Blk.new w 28 #[.int .i64 0, .int .i64 0, .string ⟨#[]⟩, .slice none 0 0]
  have hb0 := ballocs (Below.refl w.heap.size w) (.cells #[.int .i64 0, .int .i64 0, .string ⟨#[]⟩, .slice none 0 0] 28)
  have HZ := Lib.hid hz; have HB0 := Lib.hid hb0; have HE := Lib.hid hE; have HL := Lib.hid hL
  clear hz hb0 hL hk hn hy hE
  go_enter Try.func41, Try.ntmps41
  go_wp2_with fail
  obtain ⟨w1, hw1⟩ : ∃ x, w.alloc (.cells #[.int .i64 0, .int .i64 0, .string ⟨#[]⟩, .slice none 0 0] 28) = x := ⟨_, rfl⟩
  rw [hw1] at HZ HB0 ⊢
  clear hw1
  go_step3
  go_wp2_with fail
  refine (HUN.out w1).mono ?_
  rintro e w2 ⟨rfl, hb2⟩
  have hr2 := (HL.out.below HB0.out HL.out.lt).below hb2 (Nat.lt_of_lt_of_le HL.out.lt HB0.out.size)
  have hz2 := HZ.out.below hb2 HZ.out.lt
  have hlt2 : gl < w2.heap.size := Blk.lt hr2
  have hlz2 : w.heap.size < w2.heap.size := hz2.lt
  have q0 : w2.cell? ⟨gl, 0, none⟩ = some (.int .i64 n) := by rw [hr2.cell]; rfl
  have f0 := hr2.frozen 0
  obtain ⟨z0, z1, z2, z3, y0, y1, y2, y3⟩ := hz2.four
  have hb02 := fbelow HB0.out hb2
  have hE2 := HE.out.below hb02
  have p0 : w2.cell? ⟨gp, 0, none⟩ = some (.pointer (some ⟨gh, 0, none⟩)) := by rw [hE2.bp.cell]; rfl
  have hgp2 : gp < w2.heap.size := hE2.bp.lt
  have hnp := HE.out.np
  have HB02 := Lib.hid hb02; have HR2 := Lib.hid hr2; have HZ2 := Lib.hid hz2
  clear hb2 hr2 hz2 hb02 hE2
  go_wp2_with fail
  have hz4 := (HZ2.out.far (p := ⟨gl, 0, none⟩) (by show w.heap.size ≠ gl; omega) (.int .i64 (n - 1)))
  have hl4 : Blk (w2.setCell ⟨gl, 0, none⟩ (.int .i64 (n - 1))) gl 3 #[.int .i64 (n - 1)] := by have := HR2.out.set_ 0 (.int .i64 (n - 1)); simpa using this
  have hk4 : Keep (fun b => b = gl) w (w2.setCell ⟨gl, 0, none⟩ (.int .i64 (n - 1))) := (Keep.new (F := fun b => b = gl) HB02.out).setCell (p := ⟨gl, 0, none⟩) (.inl rfl) _
  have hb4 := (put4_blk hz4 (.int .i64 k) (.int .i64 x) (.string ⟨#[]⟩) (.slice none 0 0)).alloc (.cells #[.int .i64 k, .int .i64 x, .string ⟨#[]⟩, .slice none 0 0] 28)
  obtain ⟨r0, r1, r2, r3, _, _, _, _⟩ := hb4.four
  have hkk := (put4_keep hk4 (g := w.heap.size) (.inr (Nat.le_refl _)) (.int .i64 k) (.int .i64 x) (.string ⟨#[]⟩) (.slice none 0 0)).alloc (.cells #[.int .i64 k, .int .i64 x, .string ⟨#[]⟩, .slice none 0 0] 28)
  have hll := (put4_far hl4 (g' := w.heap.size) (by omega) (.int .i64 k) (.int .i64 x) (.string ⟨#[]⟩) (.slice none 0 0)).alloc (.cells #[.int .i64 k, .int .i64 x, .string ⟨#[]⟩, .slice none 0 0] 28)
  unfold put4 at r0 r1 r2 r3 hkk hll
  rw [Exit.noGoto_ret]
  refine bodyPost_ret (v := .agg #[.int .i64 k, .int .i64 x, .string ⟨#[]⟩, .slice none 0 0]) (by simp [results, Try.results41, go_sem, r0, r1, r2, r3]) rfl ?_
  refine ⟨_, rfl, TAt.of (t := .mk k x ⟨#[]⟩ []) ⟨HWF.out.1, HWF.out.2, by show (0 : Nat) ≤ _; exact Nat.zero_le _, Nat.le_refl _, by simp [maxLen], fun _ => rfl⟩ (TsAt.nil _ _ _), ?_, hkk⟩
  rw [HWD.out]
  exact hll
set_option maxRecDepth 100000 in
set_option maxHeartbeats 8000000 in
theorem build_atom (s : ByteArray) (i : Nat) (u n : Int) (w : World) (F : Nat → Prop) (gh g : Nat) (L : List ByteArray) (lim : Int) (H : List It) (gl gp gb : Nat) (hE : GE w F gh g L lim H gl gp gb) (hL : Blk w gl 3 #[.int .i64 n]) (hu : U64 u) (hk : unK u = 2) (hn : unN u = (i : Int)) (hy : unE u = 0) (hs : L[i]? = some s) (h64 : s.size ≤ maxLen) (h1 : 1 ≤ n) (h6 : n ≤ 65536) : Calls Try.prog 41 #[.int .u64 u, .pointer (some ⟨gl, 0, none⟩), .pointer (some ⟨gp, 0, none⟩), .pointer (some ⟨gb, 0, none⟩)] w (BP w gl (.mk 2 0 s []) n) := by
  have HNM := Lib.hid (fun (w' : World) (F' FT : Nat → Prop) (hT : Tab w' FT g L) => name_yes g L i s w' FT hT hs)
  have HWD := Lib.hid (show wds (.mk 2 0 s []) = 1 from by rw [wds_mk]; unfold ownN; rw [if_neg (by simp only [Tm.k_mk]; omega)]; split <;> simp [wdsL_nil])
  have HUN := Lib.hid (fun w => unpack_as hu hk hn hy w)
  have hgl : gl < w.heap.size := hL.lt
  have hz := Blk.new w 28 #[.int .i64 0, .int .i64 0, .string ⟨#[]⟩, .slice none 0 0]
  have hb0 := ballocs (Below.refl w.heap.size w) (.cells #[.int .i64 0, .int .i64 0, .string ⟨#[]⟩, .slice none 0 0] 28)
  have HZ := Lib.hid hz; have HB0 := Lib.hid hb0; have HE := Lib.hid hE; have HL := Lib.hid hL
  clear hz hb0 hL hk hn hy hE
  go_enter Try.func41, Try.ntmps41
  go_wp2_with fail
  obtain ⟨w1, hw1⟩ : ∃ x, w.alloc (.cells #[.int .i64 0, .int .i64 0, .string ⟨#[]⟩, .slice none 0 0] 28) = x := ⟨_, rfl⟩
  rw [hw1] at HZ HB0 ⊢
  clear hw1
  go_step3
  go_wp2_with fail
  refine (HUN.out w1).mono ?_
  rintro e w2 ⟨rfl, hb2⟩
  have hr2 := (HL.out.below HB0.out HL.out.lt).below hb2 (Nat.lt_of_lt_of_le HL.out.lt HB0.out.size)
  have hz2 := HZ.out.below hb2 HZ.out.lt
  have hlt2 : gl < w2.heap.size := Blk.lt hr2
  have hlz2 : w.heap.size < w2.heap.size := hz2.lt
  have q0 : w2.cell? ⟨gl, 0, none⟩ = some (.int .i64 n) := by rw [hr2.cell]; rfl
  have f0 := hr2.frozen 0
  obtain ⟨z0, z1, z2, z3, y0, y1, y2, y3⟩ := hz2.four
  have hb02 := fbelow HB0.out hb2
  have hE2 := HE.out.below hb02
  have p0 : w2.cell? ⟨gp, 0, none⟩ = some (.pointer (some ⟨gh, 0, none⟩)) := by rw [hE2.bp.cell]; rfl
  have hgp2 : gp < w2.heap.size := hE2.bp.lt
  have hnp := HE.out.np
  have HB02 := Lib.hid hb02; have HR2 := Lib.hid hr2; have HZ2 := Lib.hid hz2
  clear hb2 hr2 hz2 hb02 hE2
  have hE2 := HE.out.below HB02.out
  obtain ⟨_, FT, v, bm, N, D, hq, _⟩ := hE2.hp
  obtain ⟨Av, cv, rfl, hc1, hc2, c0, c1, c2, c3⟩ := hq.cells
  have hgh2 : gh < w2.heap.size := hq.fl _ hq.fg
  have hghl : gh ≠ gl := fun e => HE.out.nl (e ▸ hq.fg)
  clear hE2 c1 c2 c3 hc1 hc2
  go_wp2_with fail
  obtain ⟨k1, k2, k3, k4⟩ := left_new (m := n - 1) (cs := #[.int .i64 2, .int .i64 (i : Int), .string ⟨#[]⟩, .slice none 0 0]) HB02.out HZ2.out HR2.out hgl
  have hkx : Keep (fun b => b = gl) w2 ((w2.setCell ⟨gl, 0, none⟩ (.int .i64 (n - 1))).alloc (.cells #[.int .i64 2, .int .i64 (i : Int), .string ⟨#[]⟩, .slice none 0 0] 28)) := ((Keep.refl (fun b => b = gl) w2).setCell (p := ⟨gl, 0, none⟩) (.inl rfl) _).alloc _
  have hT3 := hq.tab.keep hkx (fun r hr e => HE.out.nl (e ▸ hq.ft r hr))
  have HK := Lib.hid (And.intro k2 (And.intro k3 k4))
  obtain ⟨z0, z1, z2, z3, y0, y1, y2, y3⟩ := k2.four
  clear k1 k2 k3 k4 hq
  obtain ⟨w3, hw3⟩ : ∃ x, (w2.setCell ⟨gl, 0, none⟩ (.int .i64 (n - 1))).alloc (.cells #[.int .i64 2, .int .i64 (i : Int), .string ⟨#[]⟩, .slice none 0 0] 28) = x := ⟨_, rfl⟩
  rw [hw3] at HK hT3 z0 z1 z2 z3 y0 y1 y2 y3 ⊢
  clear hw3 hkx
  have HNT := Lib.hid (HNM.out _ F FT hT3)
  clear hT3 p0 q0 f0 c0 hgh2 hghl hnp hgp2
  refine HNT.out.mono ?_
  rintro e w4 ⟨rfl, h4⟩
  subst h4
  go_wp2_with fail
  obtain ⟨k2, k3, k4⟩ := HK.out
  obtain ⟨r0, r1, r2, r3, _, _, _, _⟩ := (put4_blk k2 (.int .i64 2) (.int .i64 0) (.string s) (.slice none 0 0)).four
  have hkk := put4_keep k4 (g := w.heap.size) (.inr (Nat.le_refl _)) (.int .i64 2) (.int .i64 0) (.string s) (.slice none 0 0)
  have hll := put4_far k3 (g' := w.heap.size) (by omega) (.int .i64 2) (.int .i64 0) (.string s) (.slice none 0 0)
  unfold put4 at r0 r1 r2 r3 hkk hll
  try rw [Exit.noGoto_ret]
  refine bodyPost_ret (v := .agg #[.int .i64 2, .int .i64 0, .string s, .slice none 0 0]) (by simp [results, Try.results41, go_sem, r0, r1, r2, r3]) rfl ?_
  refine ⟨_, rfl, TAt.of (t := .mk 2 0 s []) ⟨(by show (Lit.int .i64 2).wf = true; decide), (by show (Lit.int .i64 0).wf = true; decide), h64, Nat.le_refl _, by simp [maxLen], fun _ => rfl⟩ (TsAt.nil _ _ _), ?_, hkk⟩
  rw [HWD.out]
  exact hll
end Go.Proofs.Ytnedjmjcbmoknaa.Hp
