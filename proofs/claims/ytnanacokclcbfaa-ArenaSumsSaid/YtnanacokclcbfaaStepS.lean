/- Step.step of ArenaSums: a block's words are turned. -/
import Derived.Test.YtnanacokclcbfaaStepD
namespace Go.Proofs.Ytnanacokclcbfaa.Ar
open Go.RowKit K
set_option linter.unusedVariables false
set_option linter.unusedSimpArgs false

set_option maxRecDepth 100000 in
set_option maxHeartbeats 4000000 in
theorem copyW_any (A : Option Addr) (c : Nat) (ws : List Int) (w : World) (hr : Reads w w.heap.size 1 A ws.length (wds ws)) (hl : ws.length ≤ 16777216) :
    Calls Try.prog 42 #[.slice A ws.length c] w fun e w' => ∃ A1 c1, e = .returned (.slice A1 ws.length c1) ∧ w'.ownsRow w.heap.size 68 1 (.slice A1 ws.length c1) ws.length (wds ws) ∧ Below w.heap.size w w' := by
  obtain ⟨A1, c1, w1, run1, o1, b1⟩ := app1 w (w.alloc (.cells #[] 68)) (bal (Below.refl _ _) _) w.heap.size (lit_own w w (Below.refl _ _)) A c ws.length (wds ws) hr (wds_one ws) (by omega)
  have HR1 := Lib.hid run1; have HO := Lib.hid o1; have HB := Lib.hid b1
  clear run1 o1 b1 hr
  go_enter Try.func42, Try.ntmps42
  go_wp2_with (first
    | (at_builtin; refine wpList_append_run (o := ⟨some 5, _, _, _, _, _⟩) (.tmp 3) (.tmp 4) 32 _ _ _ HR1.out rfl rfl (by simp [Act.eval, Act.put]) (by simp [Act.eval, Act.put]) ?_)
    | fail)
  go_ret
  exact ⟨A1, c1, rfl, HO.out, HB.out⟩
/-- A place of our own words: what stands there, and that it may be turned. -/
theorem own_spot {w : World} {base b L c k : Nat} {zs : List Int} (ho : w.ownsRow base 68 1 (.slice (some ⟨b, 0, none⟩) L c) L (wds zs)) (hk : k < L) :
    ∃ x, w.cell? ⟨b, k, none⟩ = some (.int .u64 x) ∧ w.frozen? ⟨b, k, none⟩ = false ∧ base ≤ b ∧ b < w.heap.size ∧ ∀ y, (w.setCell ⟨b, k, none⟩ (.int .u64 y)).ownsRow base 68 1 (.slice (some ⟨b, 0, none⟩) L c) L (wds (zs.set k y)) := by
  have hl : zs.length = L := by have := ho.1; simp [wds] at this; exact this
  have hc := ho.cells (g := b) rfl k (.int .u64 (zs[k]'(by omega))) (by simp [wds, hl, hk])
  rw [add_zero] at hc
  have hcur : ∃ cur, Blk w b 68 cur := by
    rcases ho.2 with ⟨h', _⟩ | ⟨g', cap', cur, hv, _, hg', _⟩
    · cases h'
    have hg2 : b = g' := by injection hv with h5; injection h5 with h5; injection h5
    subst hg2
    exact ⟨cur, hg'⟩
  obtain ⟨cur, hcur⟩ := hcur
  refine ⟨_, hc, hcur.frozen _, (ho.lt b rfl).1, (ho.lt b rfl).2, fun y => ?_⟩
  have e : wds (zs.set k y) = (wds zs).set k (.int .u64 y) := by simp [wds, List.map_set]
  rw [e]
  exact (ho.stored k (.int .u64 y)).1
set_option maxRecDepth 100000 in
set_option maxHeartbeats 8000000 in
theorem step_set (kd wh sz : Int) (w0 W : World) (g all n m c : Nat) (B : Bks) (G : Nat → Prop) (A : Option Addr) (hS : SS w0 W g all n B G (.slice A m c) (ents 1 B)) (hn : n ≤ 60000) (he : pickN kd 3 = 2) (hm : 0 < m) (hm2 : m ≤ 60000) (f0 : (Lit.int .i64 kd).wf = true) (f1 : (Lit.int .i64 wh).wf = true) :
    Calls Try.prog 24 #[.agg #[.int .i64 kd, .int .i64 wh, .int .i64 sz], .pointer (some ⟨g, 0, none⟩), .slice A m c] W (StepPost w0 g all (n + 1)) := by
  obtain ⟨W1, hW1⟩ : ∃ W1, W.alloc (.cells #[.int .i64 kd, .int .i64 wh, .int .i64 sz] 59) = W1 := ⟨_, rfl⟩
  have hbb : Below W.heap.size W W1 := by rw [← hW1]; exact (Below.refl _ _).alloc (Nat.le_refl _) _
  have hg : Blk W1 W.heap.size 59 #[.int .i64 kd, .int .i64 wh, .int .i64 sz] := by rw [← hW1]; exact Blk.new _ _ _
  have b1 : W1.cell? ⟨W.heap.size, 1, none⟩ = some (.int .i64 wh) := by rw [hg.cell]; rfl
  have hS1 := hS.later hbb
  obtain ⟨hml, hmc, _⟩ := hS1.reads
  obtain ⟨kk, hkk, hkn⟩ : ∃ kk : Nat, pickN wh (m : Int) = (kk : Int) ∧ kk < m := by
    have := pickN_range (x := wh) (n := (m : Int)) (by omega)
    exact ⟨(pickN wh (m : Int)).toNat, by omega, by omega⟩
  obtain ⟨p, hp⟩ : ∃ p, (ents 1 B)[kk]? = some p := ⟨_, List.getElem?_eq_getElem (by omega)⟩
  obtain ⟨hpb, hp1, hp2, _⟩ := ents_bAt hp
  obtain ⟨hlo, _, _, hBn⟩ := hS1.ok
  obtain ⟨hq1, hq2⟩ := hlo.at_ hpb
  obtain ⟨b, c', A1, c1, hv, _, _, _, hbl, z0, z1, hrd⟩ := hS1.at_ hp
  injection hv with hv1 hvm hv2
  subst hv1 hv2
  clear hvm
  have hfin : ∀ zs A5 c5 w5, zs.length = p.2.length → w5.ownsRow W1.heap.size 68 1 (.slice A5 p.2.length c5) p.2.length (wds zs) → Below W1.heap.size W1 w5 →
      ∃ A3 c3 b4 w4, (Builtin.append_ #[56, 56] 56 #[.slice (some ⟨w5.heap.size, 0, none⟩) 0 0, .slice (some ⟨b, 0, none⟩) m c]).run Try.prog (w5.alloc (.cells #[] 62)) = .ok (.slice A3 m c3) w4 ∧ A3 = some ⟨b4, 0, none⟩ ∧
        b ≠ b4 ∧ b4 ≠ b ∧ w4.frozen? ⟨b4, kk * 2 + 1, none⟩ = false ∧ (∃ u, w4.cell? ⟨b4, kk * 2 + 1, none⟩ = some u) ∧ w4.cell? ⟨b, kk * 2, none⟩ = some (.int .i64 p.1) ∧
        Calls Try.prog 19 #[.pointer (some ⟨g, 0, none⟩), .int .i64 p.1, .slice A5 p.2.length c5] (w4.setCell ⟨b4, kk * 2 + 1, none⟩ (.slice A5 p.2.length c5)) fun e w' => e = .returned (.int .i64 0) ∧ ∃ B' G', SS w0 w' g all (n + 1) B' G' (.slice A3 m c3) (ents 1 B') := by
    intro zs A5 c5 w5 hz ho hb
    rw [← hz] at ho
    obtain ⟨hS5, hR5⟩ := hS1.add hb ho
    rw [hz] at hS5 hR5
    obtain ⟨A3, c3, w4, run, hb4, hS4, h3⟩ := hS5.copy hm2
    obtain ⟨b4, c', _, _, hv, hl3, _, _, hbl4, y0, _, _⟩ := hS4.at_ hp
    injection hv with hv1 hvm hv2
    subst hv1 hv2
    have h34 := h3 _ rfl
    have hw5 := hb.size
    have hne : b ≠ b4 := by intro e; subst e; simp at h34; omega
    obtain ⟨hS6, hfz, hcu⟩ := hS4.put hp (hR5.later hb4)
    obtain ⟨s1, s2⟩ := ents_set hp hlo zs hz
    have y1 : w4.cell? ⟨b, kk * 2, none⟩ = some (.int .i64 p.1) := ((hb.trans (hb4.mono hw5)).cell hbl).trans z0
    refine ⟨_, c3, b4, w4, run, rfl, hne, fun e => hne e.symm, hfz, hcu, y1, ?_⟩
    obtain ⟨F, hA, hF, hmv⟩ := hS6.arena
    have hR6 : Rd (w4.setCell ⟨b4, kk * 2 + 1, none⟩ (.slice A5 p.2.length c5)) (fun _ => True) (.slice A5 p.2.length c5) zs := by
      obtain ⟨A', c', e, hr, hgg⟩ := hR5.later hb4
      refine (show Rd w4 (fun k => k ≠ b4) (.slice A5 p.2.length c5) zs from ⟨A', c', e, hr, fun ad ea hn0 => ?_⟩).keep (F := fun k => k = b4) ?_ (fun k h e => h e) |>.mono (fun _ _ => trivial)
      · intro e4
        have h5 := hgg ad ea hn0
        obtain ⟨_, _, _, hGG, _, _, hvv⟩ := hS4
        exact (hvv b4 rfl).2 (e4 ▸ h5)
      · exact Keep.setCell (F := fun k => k = b4) (p := ⟨b4, kk * 2 + 1, none⟩) (Keep.refl _ _) (.inl rfl) _
    obtain ⟨A', c', e, hr, _⟩ := hR6
    injection e with e1 _ e2
    subst e1 e2
    have hset := set_any g all n B p.1 A5 c5 zs _ F hA (wf_of hp1 (by omega)) hr (fun e => by
      subst e
      rcases ho.2 with ⟨h, _⟩ | ⟨_, _, _, h, _⟩
      · injection h
      · injection h with h; cases h) (by unfold maxLen; omega) (by omega)
    rw [hz] at hset s1
    refine hset.mono ?_
    rintro e w' ⟨rfl, hM⟩
    exact ⟨by rw [s1], _, _, s2 ▸ hmv _ _ _ hM⟩
  have HF := Lib.hid hfin
  have HCP := Lib.hid (copyW_any A1 c1 p.2 W1 hrd hq2)
  have HPK := Lib.hid (fun w => pick_any kd 3 f0 (by decide) w)
  rw [he] at HPK
  have HPK2 := Lib.hid (fun w => pick_any wh (m : Int) f1 (WalkArith.wf_i64 (by omega)) w)
  rw [hkk] at HPK2
  obtain ⟨pn, hpn⟩ : ∃ x, p.1 = x := ⟨_, rfl⟩
  obtain ⟨L, hL⟩ : ∃ x, p.2.length = x := ⟨_, rfl⟩
  rw [hpn] at z0 HF
  rw [hL] at z1 HF HCP hq1 hq2
  have HLL := Lib.hid hL
  have HW := Lib.hid hW1
  have i1 : (kk : Int) < (m : Int) := by omega
  have i0 : (0 : Int) ≤ (kk : Int) := by omega
  have hm0 : decide (0 < m) = true := decide_eq_true hm
  clear hS hbb hg hW1 hS1 hp hpb hp1 hp2 hBn hpn hkk he hml f0 f1 hlo hrd hfin hL
  go_enter Try.func24, Try.ntmps24
  go_wp2_with fail
  rw [HW.out]
  refine (HPK.out _).mono ?_
  rintro e w' ⟨rfl, rfl⟩
  go_wp2_with fail
  refine (HPK2.out _).mono ?_
  rintro e w' ⟨rfl, rfl⟩
  go_wp2_with fail
  refine HCP.out.mono ?_
  rintro e w2 ⟨A5, c5, rfl, ho, hb⟩
  obtain ⟨b5, c6, hv, _, _⟩ := ho.form (by omega)
  injection hv with hv1 _ hv2
  subst hv1 hv2
  have HO := Lib.hid ho
  have HB := Lib.hid hb
  clear ho hb
  go_wp2_with fail
  go_loopw [11] (fun i wr => ∃ (k : Nat) (zs : List Int), k ≤ L ∧ i = .int .i64 (k : Int) ∧ zs.length = L ∧ wr.ownsRow W1.heap.size 68 1 (.slice (some ⟨b5, 0, none⟩) L c5) L (wds zs) ∧ Below W1.heap.size W1 wr) (fun i _ => L - (intOf i).toNat)
  case atStart => exact ⟨0, p.2, Nat.zero_le _, rfl, HLL.out, HO.out, HB.out⟩
  case round =>
    obtain ⟨k, zs, hk, rfl, hz, ho, hb⟩ := hrel
    by_cases hlt : k < L
    · obtain ⟨x, x0, x1, x2, x3, x4⟩ := own_spot ho hlt
      have HX := Lib.hid x4
      have HB2 := Lib.hid hb
      have HZ := Lib.hid hz
      clear x4 hb hz ho
      go_wp2_with fail
      refine ⟨⟨k + 1, _, by omega, by go_num, ?_, HX.out _, HB2.out.setCell x2 _⟩, by simp [intOf]; omega⟩
      rw [List.length_set]; exact HZ.out
    · obtain rfl : k = L := by omega
      obtain ⟨A3, c3, b4, w4, run, rfl, n1, n2, y0, ⟨u, y1⟩, y2, hset⟩ := HF.out zs _ _ wr hz ho hb
      have HRUN := Lib.hid run
      have HSET := Lib.hid hset
      clear run hset ho hb hz HF HCP HPK HPK2 HO HB
      go_wp2_with (first
        | (at_builtin; refine wpList_append_run (o := ⟨some 76, _, _, _, _, _⟩) (.tmp 74) (.tmp 75) 56 _ _ _ HRUN.out rfl rfl (by simp [Act.eval, Act.put]) (by simp [Act.eval, Act.put]) ?_)
        | fail)
      refine HSET.out.mono ?_
      rintro e w7 ⟨rfl, B7, G7, hS7⟩
      have HS7 := Lib.hid hS7
      clear hS7 HSET
      go_wp2_with fail
      go_ret2
      exact ⟨_, _, _, _, _, rfl, HS7.out⟩
end Go.Proofs.Ytnanacokclcbfaa.Ar
