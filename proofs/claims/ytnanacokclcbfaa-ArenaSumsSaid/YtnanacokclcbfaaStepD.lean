/- Step.step of ArenaSums: a block is dropped. -/
import Derived.Test.YtnanacokclcbfaaHeld
import Derived.Test.YtnanacokclcbfaaPick
import Derived.Test.YtnanacokclcbfaaSteps
namespace Go.Proofs.Ytnanacokclcbfaa.Ar
open Go.RowKit K
set_option linter.unusedVariables false
set_option linter.unusedSimpArgs false

def StepPost (w0 : World) (g all n : Nat) (e : Ending) (w' : World) : Prop := ∃ A' m' c' B' G', e = .returned (.tuple #[.slice A' m' c', .bool true]) ∧ SS w0 w' g all n B' G' (.slice A' m' c') (ents 1 B')
theorem wf_of {x : Int} (h1 : 1 ≤ x) (h2 : x ≤ 60000) : (Lit.int .i64 x).wf = true := WalkArith.wf_i64 (by omega)
set_option maxRecDepth 100000 in
set_option maxHeartbeats 8000000 in
theorem step_drop (kd wh sz : Int) (w0 W : World) (g all n m c : Nat) (B : Bks) (G : Nat → Prop) (A : Option Addr) (hS : SS w0 W g all n B G (.slice A m c) (ents 1 B)) (hn : n ≤ 60000) (he : pickN kd 3 = 1) (hm : 0 < m) (hm2 : m ≤ 60000) (f0 : (Lit.int .i64 kd).wf = true) (f1 : (Lit.int .i64 wh).wf = true) :
    Calls Try.prog 24 #[.agg #[.int .i64 kd, .int .i64 wh, .int .i64 sz], .pointer (some ⟨g, 0, none⟩), .slice A m c] W (StepPost w0 g all (n + 1)) := by
  obtain ⟨W1, hW1⟩ : ∃ W1, W.alloc (.cells #[.int .i64 kd, .int .i64 wh, .int .i64 sz] 59) = W1 := ⟨_, rfl⟩
  have hbb : Below W.heap.size W W1 := by rw [← hW1]; exact (Below.refl _ _).alloc (Nat.le_refl _) _
  have hg : Blk W1 W.heap.size 59 #[.int .i64 kd, .int .i64 wh, .int .i64 sz] := by rw [← hW1]; exact Blk.new _ _ _
  have b1 : W1.cell? ⟨W.heap.size, 1, none⟩ = some (.int .i64 wh) := by rw [hg.cell]; rfl
  have hS1 := hS.later hbb
  obtain ⟨hml, hmc, _⟩ := hS1.reads
  have hcm : c ≤ maxLen := by obtain ⟨A0, c0, e, _, h⟩ := hS1.form; injection e with _ _ e; rw [e]; exact h
  obtain ⟨kk, hkk, hkn⟩ : ∃ kk : Nat, pickN wh (m : Int) = (kk : Int) ∧ kk < m := by
    have := pickN_range (x := wh) (n := (m : Int)) (by omega)
    exact ⟨(pickN wh (m : Int)).toNat, by omega, by omega⟩
  obtain ⟨p, hp⟩ : ∃ p, (ents 1 B)[kk]? = some p := ⟨_, List.getElem?_eq_getElem (by omega)⟩
  obtain ⟨hdE, hdB⟩ := ents_drop hp
  obtain ⟨_, hp1, hp2, _⟩ := ents_bAt hp
  have hBn := hS1.ok.2.2.2
  obtain ⟨v1, w1, g2, c2, w2, run1, bw1, run2, bw2, hS2⟩ := hS1.pull hkn hm2
  obtain ⟨b, c', A1, c1, hv, _, _, _, hbl, z0, _, _⟩ := hS1.at_ hp
  obtain ⟨pn, hpn⟩ : ∃ x, p.1 = x := ⟨_, rfl⟩
  injection hv with hv1 hvm hv2
  subst hv1 hv2
  clear hvm
  obtain ⟨A9, hA9⟩ : ∃ A9, (if c = kk + 1 then some (⟨b, 0, none⟩ : Addr) else some ⟨b, (kk + 1) * 2, none⟩) = some A9 := by
    split <;> exact ⟨_, rfl⟩
  have hA10 : (if c = kk + 1 then some (⟨b, 0, none⟩ : Addr) else (some (⟨b, 0, none⟩ : Addr)).map (·.add ((kk + 1) * 2))) = some A9 := by
    rw [← hA9]
    split
    · rfl
    · simp [Addr.add]
  rw [hA10] at run2
  have HDR := Lib.hid (show Calls Try.prog 15 #[.pointer (some ⟨g, 0, none⟩), .int .i64 pn] w2 fun e w' => e = .returned (.int .i64 0) ∧ SS w0 w' g all n (dpB B p.1) G (.slice g2 (m - 1) c2) (ents 1 (dpB B p.1)) from by
    obtain ⟨F, hA, _, hmv⟩ := hS2.arena
    rw [← hpn]
    refine (drop_any g all n B p.1 w2 F hA (wf_of hp1 (by omega))).mono ?_
    rintro e w' ⟨rfl, hM⟩
    exact ⟨by rw [hdE], hdB ▸ hmv _ _ _ hM⟩)
  have HPK := Lib.hid (fun w => pick_any kd 3 f0 (by decide) w)
  rw [he] at HPK
  have HPK2 := Lib.hid (fun w => pick_any wh (m : Int) f1 (WalkArith.wf_i64 (by omega)) w)
  rw [hkk] at HPK2
  rw [hpn] at z0
  have HW := Lib.hid hW1
  have HRUN1 := Lib.hid run1
  have HRUN2 := Lib.hid run2
  have z1 : w1.cell? ⟨b, kk * 2, none⟩ = some (.int .i64 pn) := (bw1.cell hbl).trans z0
  have z2 : w2.cell? ⟨b, kk * 2, none⟩ = some (.int .i64 pn) := (bw2.cell hbl).trans z0
  have i1 : (kk : Int) < (m : Int) := by omega
  have i0 : (0 : Int) ≤ (kk : Int) := by omega
  have i2 : (kk : Int) + 1 ≤ (m : Int) := by omega
  have i3 : ((kk : Int) + 1).toNat = kk + 1 := by omega
  have i4 : (0 : Int) ≤ (kk : Int) + 1 := by omega
  have i5 : kk ≤ c := by omega
  have i6 : kk + 1 ≤ m := by omega
  have i8 : IntKind.i64.wrap ((kk : Int) + 1) = (kk : Int) + 1 := IntWalk.i64_in _ (by omega)
  have hm0 : decide (0 < m) = true := decide_eq_true hm
  unfold maxLen at hcm
  clear hS hbb hg hW1 hS1 hp hdE hdB hp1 hp2 hBn run1 bw1 run2 bw2 hS2 hpn hkk he hA10 hml f0 f1
  go_enter Try.func24, Try.ntmps24
  go_wp2_with fail
  rw [HW.out]
  refine (HPK.out _).mono ?_
  rintro e w' ⟨rfl, rfl⟩
  go_wp2_with fail
  refine (HPK2.out _).mono ?_
  rintro e w' ⟨rfl, rfl⟩
  go_wp2_with fail
  go_region_law (first
    | (refine step_append_run (o := ⟨some 40, _, _, _, _, _⟩) (.tmp 36) (.tmp 39) 56 _ _ _ HRUN1.out rfl rfl (by simp [Act.eval, Act.put]) (by simp [Act.eval, Act.put]) ?_)
    | (refine step_append_run (o := ⟨some 45, _, _, _, _, _⟩) (.tmp 40) (.tmp 44) 56 _ _ _ HRUN2.out rfl rfl (by simp [Act.eval, Act.put]) (by simp [Act.eval, Act.put]) ?_)
    | (go_simp; go_at_call 15; refine HDR.out.mono ?_; rintro e w5 ⟨rfl, hS5⟩; have HS5 := Lib.hid hS5; clear hS5))
  all_goals
    go_wp2_with fail
    go_ret2
    exact ⟨_, _, _, _, _, rfl, HS5.out.more (Nat.le_succ n)⟩
end Go.Proofs.Ytnanacokclcbfaa.Ar
