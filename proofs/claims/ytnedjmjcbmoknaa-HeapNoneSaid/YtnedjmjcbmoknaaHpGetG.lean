/- Get, by its contract. -/
import Derived.Test.YtnedjmjcbmoknaaHpGet
import Derived.Test.YtnedjmjcbmoknaaHpGetB
import Derived.Laws.EntriesVeiled
namespace Go.Proofs.Ytnedjmjcbmoknaa.Hp
open Go.RowKit K At Wd Fl
set_option linter.unusedVariables false
set_option linter.unusedSimpArgs false

theorem build_any {H : List It} {L : List ByteArray} {t : Tm} {u : Int} (h : Rep H L t u) : BuildAt L H t u := by
  induction h with
  | leaf k n w hk hu he h1 h2 =>
    intro m w' F gh g lim gl gp gb hE hL hw h6
    have := (wds_range (.mk k n ⟨#[]⟩ [])).1
    exact build_leaf k n hk w m w' F gh g L lim H gl gp gb hE hL hu h1 h2 he (by omega) h6
  | atom s w i hu he h1 h2 hs =>
    intro m w' F gh g lim gl gp gb hE hL hw h6
    have := (wds_range (.mk 2 0 s [])).1
    obtain ⟨_, FT, v, bm, N, D, hq, _⟩ := hE.hp
    obtain ⟨bm, v, D, fl, fg, fm, fv, hB, hM, hD, hR, hnd, hsz, hl4, hby⟩ := hq.tab
    exact build_atom s i w m w' F gh g L lim H gl gp gb hE hL hu h1 h2 he hs (by have := hsz s (List.mem_of_getElem? hs); unfold maxLen; omega) (by omega) h6
  | box x l w hu he hb h1 hx hl hp ih =>
    intro m w' F gh g lim gl gp gb hE hL hw h6
    have hok := hE.hp.1.wf.ok x (itAt_mem hx)
    obtain ⟨s1, _⟩ := itAt_seg hx
    obtain ⟨p, hp'⟩ : ∃ p : Nat, unN w = (p : Int) := ⟨(unN w).toNat, by omega⟩
    rw [hp'] at hx
    have hk3 := hb
    unfold boxK at hk3
    rcases hk3 with hk | hk | hk
    · rw [hk] at h1 hw ⊢
      exact build_box7 x p l w m w' F gh g L lim H gl gp gb hE hL hu h1 hp' he hk hx hl ih hw h6
    · rw [hk] at h1 hw ⊢
      exact build_box5 x p l w m w' F gh g L lim H gl gp gb hE hL hu h1 hp' he hk hx hl ih hw h6
    · rw [hk] at h1 hw ⊢
      exact build_box9 x p l w m w' F gh g L lim H gl gp gb hE hL hu h1 hp' he hk hx hl ih hw h6
theorem may_one (gh g : Nat) (L : List ByteArray) (lim : Int) (H : List It) (w : World) (F : Nat → Prop) (h : Hp w F gh g L lim H) (r : Nat) (u : Int) (hc : w.cell? ⟨r, 0, none⟩ = some (.int .u64 u)) (hu : U64 u) :
    Calls Try.prog 37 #[.pointer (some ⟨gh, 0, none⟩), .slice (some ⟨r, 0, none⟩) 1 1] w fun e w' => e = .returned (.bool (may H L.length u)) ∧ Below w.heap.size w w' := by
  have hr : Reads w w.heap.size 1 (some ⟨r, 0, none⟩) [u].length (u64s [u]) := ⟨rfl, fun _ => ⟨_, rfl, World.block_lt_of_cell? _ _ hc, fun j v hj => by
    cases j with
    | zero => simp [u64s] at hj; subst hj; exact hc
    | succ j => simp [u64s] at hj⟩⟩
  refine (may_any gh g L lim H w F h _ 1 [u] hr (fun x hx => by simp at hx; subst hx; exact hu) (by simp)).mono ?_
  rintro e w' ⟨rfl, hb⟩
  exact ⟨by simp, hb⟩
set_option maxRecDepth 100000 in
set_option maxHeartbeats 400000 in
theorem get_bad (gh g : Nat) (L : List ByteArray) (lim : Int) (H : List It) (u : Int) (w : World) (F : Nat → Prop) (h : Hp w F gh g L lim H) (hu : U64 u) (hm : may H L.length u = false) :
    Calls Try.prog 18 #[.pointer (some ⟨gh, 0, none⟩), .int .u64 u] w fun e w' => e = .returned (.tuple #[.agg #[.int .i64 0, .int .i64 0, .string ⟨#[]⟩, .slice none 0 0], .int .i64 4]) ∧ Below w.heap.size w w' := by
  obtain ⟨w0, hw0⟩ : ∃ x, (w.alloc (.cells #[.pointer (some ⟨gh, 0, none⟩)] 22)).alloc (.cells #[.int .i64 0, .int .i64 0, .string ⟨#[]⟩, .slice none 0 0] 28) = x := ⟨_, rfl⟩
  have hb0 : Below w.heap.size w w0 := by rw [← hw0]; exact ballocs (ballocs (Below.refl _ _) _) _
  have hz0 : w0.heap.size = w.heap.size + 1 + 1 := by rw [← hw0]; simp
  have hp0 : Blk w0 w.heap.size 22 #[.pointer (some ⟨gh, 0, none⟩)] := by rw [← hw0]; exact (Blk.new _ _ _).alloc _
  have hr0 : Blk w0 (w.heap.size + 1) 28 #[.int .i64 0, .int .i64 0, .string ⟨#[]⟩, .slice none 0 0] := by
    rw [← hw0]
    have := Blk.new (w.alloc (.cells #[.pointer (some ⟨gh, 0, none⟩)] 22)) 28 #[.int .i64 0, .int .i64 0, .string ⟨#[]⟩, .slice none 0 0]
    rw [World.size_alloc] at this
    exact this
  have h0 := h.below hb0
  obtain ⟨_, FT, v, bm, N, D, hq, _⟩ := h0
  obtain ⟨Av, cv, rfl, hc1, hc2, c0, c1, c2, c3⟩ := hq.cells
  have HN := Lib.hid (hnone_yes gh bm w0 c3)
  have HH := Lib.hid h; have HB0 := Lib.hid hb0; have HM := Lib.hid hm; have HP0 := Lib.hid hp0; have HR0 := Lib.hid hr0; have HZ0 := Lib.hid hz0; have HU := Lib.hid hu
  have p0 : w0.cell? ⟨w.heap.size, 0, none⟩ = some (.pointer (some ⟨gh, 0, none⟩)) := hp0.cell 0
  clear h hb0 hm hp0 hr0 hq c0 c1 c2 c3 hc1 hc2 hu hz0
  go_enter Try.func18, Try.ntmps18
  go_wp2_with fail
  refine HN.out.mono ?_
  rintro e w1 ⟨rfl, h1⟩
  obtain rfl : w0 = w1 := h1.symm
  have hb1 : Below w0.heap.size w0 (w0.alloc (.cells #[.int .u64 u] 31)) := ballocs (Below.refl _ _) _
  have HMY := Lib.hid (may_one gh g L lim H (w0.alloc (.cells #[.int .u64 u] 31)) F ((HH.out.below HB0.out).below hb1) w0.heap.size u (by have := (Blk.new w0 31 #[.int .u64 u]).cell 0; exact this) HU.out)
  clear hb1
  go_wp2_with fail
  refine HMY.out.mono ?_
  rintro e w2 ⟨he, hb2⟩
  rw [HM.out] at he
  subst he
  have hb02 := (HB0.out.trans ((ballocs (Below.refl w0.heap.size w0) (.cells #[.int .u64 u] 31)).mono HB0.out.size)).trans (hb2.mono (by have := HB0.out.size; simp; omega))
  have hr2 := (HR0.out.alloc (.cells #[.int .u64 u] 31)).below hb2 (by have := HR0.out.lt; simp; omega)
  obtain ⟨r0, r1, r2, r3, s0, s1, s2, s3⟩ := hr2.four
  have HB2 := Lib.hid hb02; have HR2 := Lib.hid hr2
  clear hb02 hb2 hr2 p0
  go_wp2_with fail
  obtain ⟨r0, r1, r2, r3, _, _, _, _⟩ := (put4_blk HR2.out (.int .i64 0) (.int .i64 0) (.string ⟨#[]⟩) (.slice none 0 0)).four
  unfold put4 at r0 r1 r2 r3
  try rw [Exit.noGoto_ret]
  refine bodyPost_ret (v := .tuple #[.agg #[.int .i64 0, .int .i64 0, .string ⟨#[]⟩, .slice none 0 0], .int .i64 4]) (by simp [results, Try.results18, go_sem, r0, r1, r2, r3]) rfl ?_
  exact ⟨rfl, put4_below HB2.out (by omega) _ _ _ _⟩
set_option maxRecDepth 100000 in
set_option maxHeartbeats 400000 in
theorem get_any (gh g : Nat) (L : List ByteArray) (lim : Int) (H : List It) (t : Tm) (u : Int) (w : World) (F : Nat → Prop) (h : Hp w F gh g L lim H) (hrep : Rep H L t u) (hw6 : wds t ≤ 65536) :
    Calls Try.prog 18 #[.pointer (some ⟨gh, 0, none⟩), .int .u64 u] w fun e w' => ∃ v, e = .returned (.tuple #[v, .int .i64 0]) ∧ TAt w' (Fr w w') t v ∧ Below w.heap.size w w' := by
  have hu := hrep.u64.1
  have hm := hrep.may
  have HREP := Lib.hid (build_any hrep)
  have hmf : ∀ (fn : Fn) (first cap : Array Value) (w : World), (Instr.makeFunc fn first cap).run Try.prog w = .ok (.func fn first cap) w := fun _ _ _ _ => rfl
  clear hrep
  obtain ⟨w0, hw0⟩ : ∃ x, (w.alloc (.cells #[.pointer (some ⟨gh, 0, none⟩)] 22)).alloc (.cells #[.int .i64 0, .int .i64 0, .string ⟨#[]⟩, .slice none 0 0] 28) = x := ⟨_, rfl⟩
  have hb0 : Below w.heap.size w w0 := by rw [← hw0]; exact ballocs (ballocs (Below.refl _ _) _) _
  have hz0 : w0.heap.size = w.heap.size + 1 + 1 := by rw [← hw0]; simp
  have hp0 : Blk w0 w.heap.size 22 #[.pointer (some ⟨gh, 0, none⟩)] := by rw [← hw0]; exact (Blk.new _ _ _).alloc _
  have hr0 : Blk w0 (w.heap.size + 1) 28 #[.int .i64 0, .int .i64 0, .string ⟨#[]⟩, .slice none 0 0] := by
    rw [← hw0]
    have := Blk.new (w.alloc (.cells #[.pointer (some ⟨gh, 0, none⟩)] 22)) 28 #[.int .i64 0, .int .i64 0, .string ⟨#[]⟩, .slice none 0 0]
    rw [World.size_alloc] at this
    exact this
  have h0 := h.below hb0
  obtain ⟨_, FT, v, bm, N, D, hq, _⟩ := h0
  obtain ⟨Av, cv, rfl, hc1, hc2, c0, c1, c2, c3⟩ := hq.cells
  have HN := Lib.hid (hnone_yes gh bm w0 c3)
  have HH := Lib.hid h; have HB0 := Lib.hid hb0; have HM := Lib.hid hm; have HP0 := Lib.hid hp0; have HR0 := Lib.hid hr0; have HZ0 := Lib.hid hz0; have HU := Lib.hid hu
  have p0 : w0.cell? ⟨w.heap.size, 0, none⟩ = some (.pointer (some ⟨gh, 0, none⟩)) := hp0.cell 0
  clear h hb0 hm hp0 hr0 hq c0 c1 c2 c3 hc1 hc2 hu hz0
  go_enter Try.func18, Try.ntmps18
  go_wp2_with fail
  refine HN.out.mono ?_
  rintro e w1 ⟨rfl, h1⟩
  obtain rfl : w0 = w1 := h1.symm
  have hb1 : Below w0.heap.size w0 (w0.alloc (.cells #[.int .u64 u] 31)) := ballocs (Below.refl _ _) _
  have HMY := Lib.hid (may_one gh g L lim H (w0.alloc (.cells #[.int .u64 u] 31)) F ((HH.out.below HB0.out).below hb1) w0.heap.size u (by have := (Blk.new w0 31 #[.int .u64 u]).cell 0; exact this) HU.out)
  clear hb1
  go_wp2_with fail
  refine HMY.out.mono ?_
  rintro e w2 ⟨he, hb2⟩
  rw [HM.out] at he
  subst he
  have hb02 := (HB0.out.trans ((ballocs (Below.refl w0.heap.size w0) (.cells #[.int .u64 u] 31)).mono HB0.out.size)).trans (hb2.mono (by have := HB0.out.size; simp; omega))
  have hr2 := (HR0.out.alloc (.cells #[.int .u64 u] 31)).below hb2 (by have := HR0.out.lt; simp; omega)
  obtain ⟨r0, r1, r2, r3, s0, s1, s2, s3⟩ := hr2.four
  have hp2 := (HP0.out.alloc (.cells #[.int .u64 u] 31)).below hb2 (by have := HP0.out.lt; simp; omega)
  have p2 : w2.cell? ⟨w.heap.size, 0, none⟩ = some (.pointer (some ⟨gh, 0, none⟩)) := hp2.cell 0
  have hz2 : w.heap.size + 1 < w2.heap.size := hr2.lt
  have HB2 := Lib.hid hb02; have HR2 := Lib.hid hr2; have HP2 := Lib.hid hp2
  clear hb02 hb2 hr2 p0 r0 r1 r2 r3 s0 s1 s2 s3 hp2
  go_wp2_with fail
  obtain ⟨w3, hw3⟩ : ∃ x, (w2.alloc (.cells #[.int .i64 65536] 3)).alloc (.cells #[.func (.func 41) #[] #[.pointer (some ⟨w2.heap.size, 0, none⟩), .pointer (some ⟨w.heap.size, 0, none⟩), .pointer (some ⟨w2.heap.size + 1, 0, none⟩)]] 85) = x := ⟨_, rfl⟩
  have hb3 : Below w2.heap.size w2 w3 := by rw [← hw3]; exact ballocs (ballocs (Below.refl _ _) _) _
  have hz3 : w3.heap.size = w2.heap.size + 1 + 1 := by rw [← hw3]; simp
  have hl3 : Blk w3 w2.heap.size 3 #[.int .i64 65536] := by rw [← hw3]; exact (Blk.new _ _ _).alloc _
  have hf3 : Blk w3 (w2.heap.size + 1) 85 #[.func (.func 41) #[] #[.pointer (some ⟨w2.heap.size, 0, none⟩), .pointer (some ⟨w.heap.size, 0, none⟩), .pointer (some ⟨w2.heap.size + 1, 0, none⟩)]] := by
    rw [← hw3]
    have := Blk.new (w2.alloc (.cells #[.int .i64 65536] 3)) 85 #[.func (.func 41) #[] #[.pointer (some ⟨w2.heap.size, 0, none⟩), .pointer (some ⟨w.heap.size, 0, none⟩), .pointer (some ⟨w2.heap.size + 1, 0, none⟩)]]
    rw [World.size_alloc] at this
    exact this
  rw [hw3]
  clear hw3
  obtain ⟨gl, hgl⟩ : ∃ gl, w2.heap.size = gl := ⟨_, rfl⟩
  rw [hgl] at hl3 hf3 hz3 hz2 ⊢
  have hbw3 := HB2.out.trans (hb3.mono HB2.out.size)
  have hgF : ∀ k, F k → k < w.heap.size := HH.out.lt
  have hE : GE w3 F gh g L lim H gl w.heap.size (gl + 1) := ⟨HH.out.below hbw3, HP2.out.below hb3 (by rw [hgl]; omega), hf3, fun hF => by have := hgF _ hF; omega, by omega, by omega⟩
  have hr3 := HR2.out.below hb3 (by rw [hgl]; exact hz2)
  have HR3 := Lib.hid hr3; have HBW3 := Lib.hid hbw3; have HZ3 := Lib.hid hz3
  have HC := Lib.hid (HREP.out 65536 w3 F gh g lim gl w.heap.size (gl + 1) hE hl3 hw6 (by omega))
  clear hr3 hbw3 hz3 hb3 hE hl3 hf3 p2 hgl
  refine HC.out.mono ?_
  rintro e w6 hpost
  obtain ⟨k6, m6, s6, A6, l6, c6, rfl, hk6, ht6, hl6⟩ := hpost.form
  have hr6 := HR3.out.keep hk6 (show ¬ w.heap.size + 1 = gl by omega)
  obtain ⟨r0, r1, r2, r3, s0, s1, s2, s3⟩ := hr6.four
  obtain ⟨nl, hnl⟩ : ∃ nl, 65536 - wds t = nl := ⟨_, rfl⟩
  have hnl0 : 0 ≤ nl := by omega
  rw [hnl] at hl6
  have q0 : w6.cell? ⟨gl, 0, none⟩ = some (.int .i64 nl) := hl6.cell 0
  have hgl6 : gl < w6.heap.size := hl6.lt
  have hr16 : w.heap.size + 1 < w6.heap.size := hr6.lt
  have HT6 := Lib.hid ht6; have HK6 := Lib.hid hk6; have HR6 := Lib.hid hr6
  clear hpost ht6 hk6 hr6 hl6 hnl
  go_wp2_with fail
  have hb4 := (put4_blk HR6.out (.int .i64 k6) (.int .i64 m6) (.string s6) (.slice A6 l6 c6)).alloc (.cells #[.int .i64 k6, .int .i64 m6, .string s6, .slice A6 l6 c6] 28)
  obtain ⟨r0, r1, r2, r3, _, _, _, _⟩ := hb4.four
  unfold put4 at r0 r1 r2 r3
  try rw [Exit.noGoto_ret]
  refine bodyPost_ret (v := .tuple #[.agg #[.int .i64 k6, .int .i64 m6, .string s6, .slice A6 l6 c6], .int .i64 0]) (by simp [results, Try.results18, go_sem, r0, r1, r2, r3]) rfl ?_
  have hkp := (put4_keep (Keep.refl (fun b => b = w.heap.size + 1) w6) (g := w.heap.size + 1) (.inl rfl) (.int .i64 k6) (.int .i64 m6) (.string s6) (.slice A6 l6 c6)).alloc (.cells #[.int .i64 k6, .int .i64 m6, .string s6, .slice A6 l6 c6] 28)
  have hb6 : Below w.heap.size w w6 := Keep.below HBW3.out HK6.out HBW3.out.size (fun i hi e => by omega)
  refine ⟨_, rfl, (HT6.out.keepF hkp (fun b hb => hb.2) (fun b hb e => by have := hb.1; have := HZ3.out; omega)).mono (fun b hb => ⟨by have := hb.1; have := HZ3.out; omega, Nat.lt_of_lt_of_le hb.2 hkp.size⟩), ?_⟩
  exact Keep.below hb6 hkp hb6.size (fun i hi e => by omega)
end Go.Proofs.Ytnedjmjcbmoknaa.Hp
