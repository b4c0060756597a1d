/- Step.step of ArenaSums: a block is taken; and all its ways together. (Printed by wip/bin/mk_stept.py.) -/
import Derived.Test.YtnanacokclcbfaaStepS
namespace Go.Proofs.Ytnanacokclcbfaa.Ar
open Go.RowKit K
set_option linter.unusedVariables false
set_option linter.unusedSimpArgs false

set_option maxRecDepth 100000 in
set_option maxHeartbeats 8000000 in
theorem step_take0 (kd wh sz : Int) (w0 W : World) (g all n m c : Nat) (B : Bks) (G : Nat → Prop) (A : Option Addr) (hS : SS w0 W g all n B G (.slice A m c) (ents 1 B)) (hn : n ≤ 60000) (he : pickN kd 3 = 0) (hm2 : m ≤ 60000) (f0 : (Lit.int .i64 kd).wf = true) (f2 : (Lit.int .i64 sz).wf = true) :
    Calls Try.prog 24 #[.agg #[.int .i64 kd, .int .i64 wh, .int .i64 sz], .pointer (some ⟨g, 0, none⟩), .slice A m c] W (StepPost w0 g all (n + 1)) := by
  obtain ⟨W1, hW1⟩ : ∃ W1, W.alloc (.cells #[.int .i64 kd, .int .i64 wh, .int .i64 sz] 59) = W1 := ⟨_, rfl⟩
  have hbb : Below W.heap.size W W1 := by rw [← hW1]; exact (Below.refl _ _).alloc (Nat.le_refl _) _
  have hg : Blk W1 W.heap.size 59 #[.int .i64 kd, .int .i64 wh, .int .i64 sz] := by rw [← hW1]; exact Blk.new _ _ _
  have b2 : W1.cell? ⟨W.heap.size, 2, none⟩ = some (.int .i64 sz) := by rw [hg.cell]; rfl
  have HS1 := Lib.hid (hS.later hbb)
  have hall := HS1.out.ok.2.2.1
  have hus := HS1.out.ok.2.1
  obtain ⟨q, hq, hq1, hq2⟩ : ∃ q : Nat, 1 + pickN sz 40 = (q : Int) ∧ 1 ≤ q ∧ q ≤ 40 := by
    have := pickN_range (x := sz) (n := 40) (by omega)
    exact ⟨(1 + pickN sz 40).toNat, by omega, by omega, by omega⟩
  obtain ⟨pq, hpq⟩ : ∃ x, pickN sz 40 = x := ⟨_, rfl⟩
  rw [hpq] at hq
  have hwq : IntKind.i64.wrap (1 + pq) = (q : Int) := by rw [hq]; exact IntWalk.i64_in _ (by omega)
  have HMK := fun w => run_make_row' (P := Try.prog) 32 68 (.int .u64 0) 8 Try.underlying32 infoU64' rfl .i64 .i64 q (by omega) (by omega) w
  obtain ⟨cs, hcs⟩ : ∃ cs, madeCells #[Value.int .u64 0] q = cs := ⟨_, rfl⟩
  have HO0 := Lib.hid (show ∀ w : World, (w.alloc (.cells cs 68)).ownsRow w.heap.size 68 1 (.slice (some ⟨w.heap.size, 0, none⟩) q q) q (wds (List.replicate q 0)) from fun w => by
    have h := World.ownsRow_lit (e := 68) (size := 1) (base := w.heap.size) w (madeCells #[Value.int .u64 0] q) q (Nat.le_refl _) (by unfold maxLen; omega) (by rw [size_madeCells]; simp)
    rw [toList_madeCells_one] at h
    have e : wds (List.replicate q 0) = List.replicate q (Value.int .u64 0) := by simp [wds]
    rw [e, ← hcs]
    exact h)
  rw [hcs] at HMK
  have HPK := Lib.hid (fun w => pick_any kd 3 f0 (by decide) w)
  have HPK2 := Lib.hid (fun w => pick_any sz 40 f2 (by decide) w)
  rw [hpq] at HPK2
  have HRD := Lib.hid (fun w => round_nat q hq1 (by omega) w)
  obtain ⟨rq, hrq⟩ : ∃ x, rnd q = x := ⟨_, rfl⟩
  obtain ⟨us, hus2⟩ : ∃ x, used B = x := ⟨_, rfl⟩
  have hrl : rq ≤ 33554432 := by have := rnd_lt (n := q) (by omega) (by omega); omega
  rw [hrq] at HRD
  have HLF := Lib.hid (show ∀ w, Below W1.heap.size W1 w → Calls Try.prog 22 #[.pointer (some ⟨g, 0, none⟩)] w fun e w' => e = .returned (.int .i64 ((all : Int) - (us : Int))) ∧ ∃ d, w' = w.drewN d from fun w hb => by
    rw [← hus2]
    obtain ⟨F, hA, _⟩ := (HS1.out.later hb).arena
    exact left_any g all n B w F hA)
  have hws : IntKind.i64.wrap ((all : Int) - (us : Int)) = (all : Int) - (us : Int) := IntWalk.i64_in _ (by omega)
  rw [he] at HPK
  clear he
  have HW := Lib.hid hW1
  have HBB := Lib.hid hbb
  have HM2 := Lib.hid hm2
  have HN := Lib.hid hn
  rw [hus2] at hus
  by_cases hfit : us + rq ≤ all
  · have d1 : decide ((rq : Int) ≤ (all : Int) - (us : Int)) = true := decide_eq_true (by omega)
    have HT := Lib.hid (show ∀ zs w, zs.length = q → w.ownsRow W1.heap.size 68 1 (.slice (some ⟨W1.heap.size, 0, none⟩) q q) q (wds zs) → Below W1.heap.size W1 w →
        Calls Try.prog 14 #[.pointer (some ⟨g, 0, none⟩), .slice (some ⟨W1.heap.size, 0, none⟩) q q] w fun e w' => e = .returned (.tuple #[.int .i64 ((B.length : Int) + 1), .int .i64 0]) ∧
          ∃ g1 c2 w2 B' G', (Builtin.append_ #[56, 56] 56 #[.slice A m c, .slice (some ⟨w'.heap.size, 0, none⟩) 1 1]).run Try.prog (w'.alloc (.cells #[.int .i64 ((B.length : Int) + 1), .slice (some ⟨W1.heap.size, 0, none⟩) q q] 62)) = .ok (.slice (some ⟨g1, 0, none⟩) (m + 1) c2) w2 ∧
            SS w0 w2 g all (n + 1) B' G' (.slice (some ⟨g1, 0, none⟩) (m + 1) c2) (ents 1 B') from fun zs w hz ho hb => by
      subst hz
      obtain ⟨hS2, hR2⟩ := HS1.out.add hb ho
      obtain ⟨F, hA, hF, hmv⟩ := hS2.arena
      obtain ⟨t1, t2, t3⟩ := (ents_take all B zs hq1 (by omega)).1 (by rw [hus2, hrq]; exact hfit)
      have hgF : F g := by obtain ⟨bm, D, fl, fg, _⟩ := hA; exact fg
      have hAg : W1.heap.size ≠ g := fun e => (hF g hgF).2.1 (.inr (by rw [← e]; rfl))
      refine (take_any g all n B (some ⟨W1.heap.size, 0, none⟩) zs.length zs w F hA (Reads.of_own ho) (fun h => by cases h) (fun ad e => by injection e with e; subst e; exact hAg) (by unfold maxLen; omega) (by have := HN.out; omega)).mono ?_
      rintro e w' ⟨rfl, hM⟩
      have hS3 := hmv _ _ _ hM
      have hR3 := hR2.keep hM.choose_spec.2.2 (fun k hg hf => (hF k hf).2.1 hg)
      obtain ⟨g1, c2, w2, run, hS4⟩ := hS3.push hR3 ((B.length : Int) + 1) HM2.out
      exact ⟨by rw [t1, t2], g1, c2, w2, _, _, run, t3 ▸ hS4⟩)
    obtain ⟨nb, hnb⟩ : ∃ x, (B.length : Int) + 1 = x := ⟨_, rfl⟩
    have hnb1 : 0 < nb := by omega
    have hnb2 : nb ≤ 60001 := by have := HS1.out.ok.2.2.2; omega
    rw [hnb] at HT
    clear hS hbb hg hW1 hq hpq hcs hrq hus2 f0 f2 hm2 hn hnb hfit
    go_enter Try.func24, Try.ntmps24
    go_wp2_with fail
    rw [HW.out]
    refine (HPK.out _).mono ?_
    rintro e w' ⟨rfl, rfl⟩
    go_wp2_with fail
    refine (HPK2.out _).mono ?_
    rintro e w' ⟨rfl, rfl⟩
    go_wp2_with fail
    go_loopw [15] (fun i wr => ∃ (k : Nat) (zs : List Int), k ≤ q ∧ i = .int .i64 (k : Int) ∧ zs.length = q ∧ wr.ownsRow W1.heap.size 68 1 (.slice (some ⟨W1.heap.size, 0, none⟩) q q) q (wds zs) ∧ Below W1.heap.size W1 wr) (fun i _ => q - (intOf i).toNat)
    case atStart => exact ⟨0, _, Nat.zero_le _, rfl, by simp, HO0.out _, (Below.refl _ _).alloc (Nat.le_refl _) _⟩
    case round =>
      obtain ⟨k, zs, hk, rfl, hz, ho, hb⟩ := hrel
      by_cases hlt : k < q
      · obtain ⟨x, x0, x1, x2, x3, x4⟩ := own_spot ho hlt
        have HX := Lib.hid x4
        have HB2 := Lib.hid hb
        have HZ := Lib.hid hz
        clear x4 hb hz ho
        go_wp2_with fail
        refine ⟨⟨k + 1, _, by omega, by go_num, ?_, HX.out _, HB2.out.setCell x2 _⟩, by simp [intOf]; omega⟩
        rw [List.length_set]; exact HZ.out
      obtain rfl : k = q := by omega
      clear HPK HPK2 HMK HO0
      go_wp2_with fail
      refine (HRD.out _).mono ?_
      rintro e w' ⟨rfl, rfl⟩
      go_wp2_with fail
      refine (HLF.out _ hb).mono ?_
      rintro e w6 ⟨rfl, d6, rfl⟩
      go_wp2_with fail
      refine (HT.out zs (wr.drewN d6) hz ho ⟨hb.os, hb.tape, hb.output, hb.size, hb.block⟩).mono ?_
      rintro e w7 ⟨rfl, g1, c2, w8, B7, G7, run, hS8⟩
      have HRUN := Lib.hid run
      have HS8 := Lib.hid hS8
      clear run hS8 ho hb hz
      go_wp2_with (first
        | (at_builtin; refine wpList_append_run (o := ⟨some 129, _, _, _, _, _⟩) (.tmp 124) (.tmp 128) 56 _ _ _ HRUN.out rfl rfl (by simp [Act.eval, Act.put]) (by simp [Act.eval, Act.put]) ?_)
        | fail)
      go_ret2
      exact ⟨_, _, _, _, _, rfl, HS8.out⟩
  · have d1 : decide ((rq : Int) ≤ (all : Int) - (us : Int)) = false := decide_eq_false (by omega)
    have HT := Lib.hid (show ∀ zs w, zs.length = q → w.ownsRow W1.heap.size 68 1 (.slice (some ⟨W1.heap.size, 0, none⟩) q q) q (wds zs) → Below W1.heap.size W1 w →
        Calls Try.prog 14 #[.pointer (some ⟨g, 0, none⟩), .slice (some ⟨W1.heap.size, 0, none⟩) q q] w fun e w' => (∃ N, e = .returned (.tuple #[.int .i64 N, .int .i64 11])) ∧ ∃ B' G', SS w0 w' g all (n + 1) B' G' (.slice A m c) (ents 1 B') from fun zs w hz ho hb => by
      subst hz
      obtain ⟨hS2, hR2⟩ := HS1.out.add hb ho
      obtain ⟨F, hA, hF, hmv⟩ := hS2.arena
      obtain ⟨t1, t3⟩ := (ents_take all B zs hq1 (by omega)).2 (by rw [hus2, hrq]; exact hfit)
      have hgF : F g := by obtain ⟨bm, D, fl, fg, _⟩ := hA; exact fg
      have hAg : W1.heap.size ≠ g := fun e => (hF g hgF).2.1 (.inr (by rw [← e]; rfl))
      refine (take_any g all n B (some ⟨W1.heap.size, 0, none⟩) zs.length zs w F hA (Reads.of_own ho) (fun h => by cases h) (fun ad e => by injection e with e; subst e; exact hAg) (by unfold maxLen; omega) (by have := HN.out; omega)).mono ?_
      rintro e w' ⟨rfl, hM⟩
      have hS3 := hmv _ _ _ hM
      rw [t3] at hS3
      exact ⟨⟨_, by rw [t1]⟩, _, _, hS3⟩)
    clear hS hbb hg hW1 hq hpq hcs hrq hus2 f0 f2 hm2 hn hfit
    go_enter Try.func24, Try.ntmps24
    go_wp2_with fail
    rw [HW.out]
    refine (HPK.out _).mono ?_
    rintro e w' ⟨rfl, rfl⟩
    go_wp2_with fail
    refine (HPK2.out _).mono ?_
    rintro e w' ⟨rfl, rfl⟩
    go_wp2_with fail
    go_loopw [15] (fun i wr => ∃ (k : Nat) (zs : List Int), k ≤ q ∧ i = .int .i64 (k : Int) ∧ zs.length = q ∧ wr.ownsRow W1.heap.size 68 1 (.slice (some ⟨W1.heap.size, 0, none⟩) q q) q (wds zs) ∧ Below W1.heap.size W1 wr) (fun i _ => q - (intOf i).toNat)
    case atStart => exact ⟨0, _, Nat.zero_le _, rfl, by simp, HO0.out _, (Below.refl _ _).alloc (Nat.le_refl _) _⟩
    case round =>
      obtain ⟨k, zs, hk, rfl, hz, ho, hb⟩ := hrel
      by_cases hlt : k < q
      · obtain ⟨x, x0, x1, x2, x3, x4⟩ := own_spot ho hlt
        have HX := Lib.hid x4
        have HB2 := Lib.hid hb
        have HZ := Lib.hid hz
        clear x4 hb hz ho
        go_wp2_with fail
        refine ⟨⟨k + 1, _, by omega, by go_num, ?_, HX.out _, HB2.out.setCell x2 _⟩, by simp [intOf]; omega⟩
        rw [List.length_set]; exact HZ.out
      obtain rfl : k = q := by omega
      clear HPK HPK2 HMK HO0
      go_wp2_with fail
      refine (HRD.out _).mono ?_
      rintro e w' ⟨rfl, rfl⟩
      go_wp2_with fail
      refine (HLF.out _ hb).mono ?_
      rintro e w6 ⟨rfl, d6, rfl⟩
      go_wp2_with fail
      refine (HT.out zs (wr.drewN d6) hz ho ⟨hb.os, hb.tape, hb.output, hb.size, hb.block⟩).mono ?_
      rintro e w7 ⟨⟨N, rfl⟩, B7, G7, hS8⟩
      have HS8 := Lib.hid hS8
      clear hS8 ho hb hz
      go_wp2_with fail
      go_ret2
      exact ⟨_, _, _, _, _, rfl, HS8.out⟩
set_option maxRecDepth 100000 in
set_option maxHeartbeats 8000000 in
theorem step_takem (kd wh sz : Int) (w0 W : World) (g all n m c : Nat) (B : Bks) (G : Nat → Prop) (A : Option Addr) (hS : SS w0 W g all n B G (.slice A m c) (ents 1 B)) (hn : n ≤ 60000) (he : 0 < pickN kd 3) (hm : m = 0) (hm2 : m ≤ 60000) (f0 : (Lit.int .i64 kd).wf = true) (f2 : (Lit.int .i64 sz).wf = true) :
    Calls Try.prog 24 #[.agg #[.int .i64 kd, .int .i64 wh, .int .i64 sz], .pointer (some ⟨g, 0, none⟩), .slice A m c] W (StepPost w0 g all (n + 1)) := by
  obtain ⟨W1, hW1⟩ : ∃ W1, W.alloc (.cells #[.int .i64 kd, .int .i64 wh, .int .i64 sz] 59) = W1 := ⟨_, rfl⟩
  have hbb : Below W.heap.size W W1 := by rw [← hW1]; exact (Below.refl _ _).alloc (Nat.le_refl _) _
  have hg : Blk W1 W.heap.size 59 #[.int .i64 kd, .int .i64 wh, .int .i64 sz] := by rw [← hW1]; exact Blk.new _ _ _
  have b2 : W1.cell? ⟨W.heap.size, 2, none⟩ = some (.int .i64 sz) := by rw [hg.cell]; rfl
  have HS1 := Lib.hid (hS.later hbb)
  have hall := HS1.out.ok.2.2.1
  have hus := HS1.out.ok.2.1
  obtain ⟨q, hq, hq1, hq2⟩ : ∃ q : Nat, 1 + pickN sz 40 = (q : Int) ∧ 1 ≤ q ∧ q ≤ 40 := by
    have := pickN_range (x := sz) (n := 40) (by omega)
    exact ⟨(1 + pickN sz 40).toNat, by omega, by omega, by omega⟩
  obtain ⟨pq, hpq⟩ : ∃ x, pickN sz 40 = x := ⟨_, rfl⟩
  rw [hpq] at hq
  have hwq : IntKind.i64.wrap (1 + pq) = (q : Int) := by rw [hq]; exact IntWalk.i64_in _ (by omega)
  have HMK := fun w => run_make_row' (P := Try.prog) 32 68 (.int .u64 0) 8 Try.underlying32 infoU64' rfl .i64 .i64 q (by omega) (by omega) w
  obtain ⟨cs, hcs⟩ : ∃ cs, madeCells #[Value.int .u64 0] q = cs := ⟨_, rfl⟩
  have HO0 := Lib.hid (show ∀ w : World, (w.alloc (.cells cs 68)).ownsRow w.heap.size 68 1 (.slice (some ⟨w.heap.size, 0, none⟩) q q) q (wds (List.replicate q 0)) from fun w => by
    have h := World.ownsRow_lit (e := 68) (size := 1) (base := w.heap.size) w (madeCells #[Value.int .u64 0] q) q (Nat.le_refl _) (by unfold maxLen; omega) (by rw [size_madeCells]; simp)
    rw [toList_madeCells_one] at h
    have e : wds (List.replicate q 0) = List.replicate q (Value.int .u64 0) := by simp [wds]
    rw [e, ← hcs]
    exact h)
  rw [hcs] at HMK
  have HPK := Lib.hid (fun w => pick_any kd 3 f0 (by decide) w)
  have HPK2 := Lib.hid (fun w => pick_any sz 40 f2 (by decide) w)
  rw [hpq] at HPK2
  have HRD := Lib.hid (fun w => round_nat q hq1 (by omega) w)
  obtain ⟨rq, hrq⟩ : ∃ x, rnd q = x := ⟨_, rfl⟩
  obtain ⟨us, hus2⟩ : ∃ x, used B = x := ⟨_, rfl⟩
  have hrl : rq ≤ 33554432 := by have := rnd_lt (n := q) (by omega) (by omega); omega
  rw [hrq] at HRD
  have HLF := Lib.hid (show ∀ w, Below W1.heap.size W1 w → Calls Try.prog 22 #[.pointer (some ⟨g, 0, none⟩)] w fun e w' => e = .returned (.int .i64 ((all : Int) - (us : Int))) ∧ ∃ d, w' = w.drewN d from fun w hb => by
    rw [← hus2]
    obtain ⟨F, hA, _⟩ := (HS1.out.later hb).arena
    exact left_any g all n B w F hA)
  have hws : IntKind.i64.wrap ((all : Int) - (us : Int)) = (all : Int) - (us : Int) := IntWalk.i64_in _ (by omega)
  obtain ⟨pk, hpk⟩ : ∃ x, pickN kd 3 = x := ⟨_, rfl⟩
  rw [hpk] at HPK he
  have hm0 : decide (0 < m) = false := decide_eq_false (by omega)
  clear hpk hm
  have HW := Lib.hid hW1
  have HBB := Lib.hid hbb
  have HM2 := Lib.hid hm2
  have HN := Lib.hid hn
  rw [hus2] at hus
  by_cases hfit : us + rq ≤ all
  · have d1 : decide ((rq : Int) ≤ (all : Int) - (us : Int)) = true := decide_eq_true (by omega)
    have HT := Lib.hid (show ∀ zs w, zs.length = q → w.ownsRow W1.heap.size 68 1 (.slice (some ⟨W1.heap.size, 0, none⟩) q q) q (wds zs) → Below W1.heap.size W1 w →
        Calls Try.prog 14 #[.pointer (some ⟨g, 0, none⟩), .slice (some ⟨W1.heap.size, 0, none⟩) q q] w fun e w' => e = .returned (.tuple #[.int .i64 ((B.length : Int) + 1), .int .i64 0]) ∧
          ∃ g1 c2 w2 B' G', (Builtin.append_ #[56, 56] 56 #[.slice A m c, .slice (some ⟨w'.heap.size, 0, none⟩) 1 1]).run Try.prog (w'.alloc (.cells #[.int .i64 ((B.length : Int) + 1), .slice (some ⟨W1.heap.size, 0, none⟩) q q] 62)) = .ok (.slice (some ⟨g1, 0, none⟩) (m + 1) c2) w2 ∧
            SS w0 w2 g all (n + 1) B' G' (.slice (some ⟨g1, 0, none⟩) (m + 1) c2) (ents 1 B') from fun zs w hz ho hb => by
      subst hz
      obtain ⟨hS2, hR2⟩ := HS1.out.add hb ho
      obtain ⟨F, hA, hF, hmv⟩ := hS2.arena
      obtain ⟨t1, t2, t3⟩ := (ents_take all B zs hq1 (by omega)).1 (by rw [hus2, hrq]; exact hfit)
      have hgF : F g := by obtain ⟨bm, D, fl, fg, _⟩ := hA; exact fg
      have hAg : W1.heap.size ≠ g := fun e => (hF g hgF).2.1 (.inr (by rw [← e]; rfl))
      refine (take_any g all n B (some ⟨W1.heap.size, 0, none⟩) zs.length zs w F hA (Reads.of_own ho) (fun h => by cases h) (fun ad e => by injection e with e; subst e; exact hAg) (by unfold maxLen; omega) (by have := HN.out; omega)).mono ?_
      rintro e w' ⟨rfl, hM⟩
      have hS3 := hmv _ _ _ hM
      have hR3 := hR2.keep hM.choose_spec.2.2 (fun k hg hf => (hF k hf).2.1 hg)
      obtain ⟨g1, c2, w2, run, hS4⟩ := hS3.push hR3 ((B.length : Int) + 1) HM2.out
      exact ⟨by rw [t1, t2], g1, c2, w2, _, _, run, t3 ▸ hS4⟩)
    obtain ⟨nb, hnb⟩ : ∃ x, (B.length : Int) + 1 = x := ⟨_, rfl⟩
    have hnb1 : 0 < nb := by omega
    have hnb2 : nb ≤ 60001 := by have := HS1.out.ok.2.2.2; omega
    rw [hnb] at HT
    clear hS hbb hg hW1 hq hpq hcs hrq hus2 f0 f2 hm2 hn hnb hfit
    go_enter Try.func24, Try.ntmps24
    go_wp2_with fail
    rw [HW.out]
    refine (HPK.out _).mono ?_
    rintro e w' ⟨rfl, rfl⟩
    go_wp2_with fail
    refine (HPK2.out _).mono ?_
    rintro e w' ⟨rfl, rfl⟩
    go_wp2_with fail
    go_loopw [15] (fun i wr => ∃ (k : Nat) (zs : List Int), k ≤ q ∧ i = .int .i64 (k : Int) ∧ zs.length = q ∧ wr.ownsRow W1.heap.size 68 1 (.slice (some ⟨W1.heap.size, 0, none⟩) q q) q (wds zs) ∧ Below W1.heap.size W1 wr) (fun i _ => q - (intOf i).toNat)
    case atStart => exact ⟨0, _, Nat.zero_le _, rfl, by simp, HO0.out _, (Below.refl _ _).alloc (Nat.le_refl _) _⟩
    case round =>
      obtain ⟨k, zs, hk, rfl, hz, ho, hb⟩ := hrel
      by_cases hlt : k < q
      · obtain ⟨x, x0, x1, x2, x3, x4⟩ := own_spot ho hlt
        have HX := Lib.hid x4
        have HB2 := Lib.hid hb
        have HZ := Lib.hid hz
        clear x4 hb hz ho
        go_wp2_with fail
        refine ⟨⟨k + 1, _, by omega, by go_num, ?_, HX.out _, HB2.out.setCell x2 _⟩, by simp [intOf]; omega⟩
        rw [List.length_set]; exact HZ.out
      obtain rfl : k = q := by omega
      clear HPK HPK2 HMK HO0
      go_wp2_with fail
      refine (HRD.out _).mono ?_
      rintro e w' ⟨rfl, rfl⟩
      go_wp2_with fail
      refine (HLF.out _ hb).mono ?_
      rintro e w6 ⟨rfl, d6, rfl⟩
      go_wp2_with fail
      refine (HT.out zs (wr.drewN d6) hz ho ⟨hb.os, hb.tape, hb.output, hb.size, hb.block⟩).mono ?_
      rintro e w7 ⟨rfl, g1, c2, w8, B7, G7, run, hS8⟩
      have HRUN := Lib.hid run
      have HS8 := Lib.hid hS8
      clear run hS8 ho hb hz
      go_wp2_with (first
        | (at_builtin; refine wpList_append_run (o := ⟨some 129, _, _, _, _, _⟩) (.tmp 124) (.tmp 128) 56 _ _ _ HRUN.out rfl rfl (by simp [Act.eval, Act.put]) (by simp [Act.eval, Act.put]) ?_)
        | fail)
      go_ret2
      exact ⟨_, _, _, _, _, rfl, HS8.out⟩
  · have d1 : decide ((rq : Int) ≤ (all : Int) - (us : Int)) = false := decide_eq_false (by omega)
    have HT := Lib.hid (show ∀ zs w, zs.length = q → w.ownsRow W1.heap.size 68 1 (.slice (some ⟨W1.heap.size, 0, none⟩) q q) q (wds zs) → Below W1.heap.size W1 w →
        Calls Try.prog 14 #[.pointer (some ⟨g, 0, none⟩), .slice (some ⟨W1.heap.size, 0, none⟩) q q] w fun e w' => (∃ N, e = .returned (.tuple #[.int .i64 N, .int .i64 11])) ∧ ∃ B' G', SS w0 w' g all (n + 1) B' G' (.slice A m c) (ents 1 B') from fun zs w hz ho hb => by
      subst hz
      obtain ⟨hS2, hR2⟩ := HS1.out.add hb ho
      obtain ⟨F, hA, hF, hmv⟩ := hS2.arena
      obtain ⟨t1, t3⟩ := (ents_take all B zs hq1 (by omega)).2 (by rw [hus2, hrq]; exact hfit)
      have hgF : F g := by obtain ⟨bm, D, fl, fg, _⟩ := hA; exact fg
      have hAg : W1.heap.size ≠ g := fun e => (hF g hgF).2.1 (.inr (by rw [← e]; rfl))
      refine (take_any g all n B (some ⟨W1.heap.size, 0, none⟩) zs.length zs w F hA (Reads.of_own ho) (fun h => by cases h) (fun ad e => by injection e with e; subst e; exact hAg) (by unfold maxLen; omega) (by have := HN.out; omega)).mono ?_
      rintro e w' ⟨rfl, hM⟩
      have hS3 := hmv _ _ _ hM
      rw [t3] at hS3
      exact ⟨⟨_, by rw [t1]⟩, _, _, hS3⟩)
    clear hS hbb hg hW1 hq hpq hcs hrq hus2 f0 f2 hm2 hn hfit
    go_enter Try.func24, Try.ntmps24
    go_wp2_with fail
    rw [HW.out]
    refine (HPK.out _).mono ?_
    rintro e w' ⟨rfl, rfl⟩
    go_wp2_with fail
    refine (HPK2.out _).mono ?_
    rintro e w' ⟨rfl, rfl⟩
    go_wp2_with fail
    go_loopw [15] (fun i wr => ∃ (k : Nat) (zs : List Int), k ≤ q ∧ i = .int .i64 (k : Int) ∧ zs.length = q ∧ wr.ownsRow W1.heap.size 68 1 (.slice (some ⟨W1.heap.size, 0, none⟩) q q) q (wds zs) ∧ Below W1.heap.size W1 wr) (fun i _ => q - (intOf i).toNat)
    case atStart => exact ⟨0, _, Nat.zero_le _, rfl, by simp, HO0.out _, (Below.refl _ _).alloc (Nat.le_refl _) _⟩
    case round =>
      obtain ⟨k, zs, hk, rfl, hz, ho, hb⟩ := hrel
      by_cases hlt : k < q
      · obtain ⟨x, x0, x1, x2, x3, x4⟩ := own_spot ho hlt
        have HX := Lib.hid x4
        have HB2 := Lib.hid hb
        have HZ := Lib.hid hz
        clear x4 hb hz ho
        go_wp2_with fail
        refine ⟨⟨k + 1, _, by omega, by go_num, ?_, HX.out _, HB2.out.setCell x2 _⟩, by simp [intOf]; omega⟩
        rw [List.length_set]; exact HZ.out
      obtain rfl : k = q := by omega
      clear HPK HPK2 HMK HO0
      go_wp2_with fail
      refine (HRD.out _).mono ?_
      rintro e w' ⟨rfl, rfl⟩
      go_wp2_with fail
      refine (HLF.out _ hb).mono ?_
      rintro e w6 ⟨rfl, d6, rfl⟩
      go_wp2_with fail
      refine (HT.out zs (wr.drewN d6) hz ho ⟨hb.os, hb.tape, hb.output, hb.size, hb.block⟩).mono ?_
      rintro e w7 ⟨⟨N, rfl⟩, B7, G7, hS8⟩
      have HS8 := Lib.hid hS8
      clear hS8 ho hb hz
      go_wp2_with fail
      go_ret2
      exact ⟨_, _, _, _, _, rfl, HS8.out⟩
theorem step_any (kd wh sz : Int) (w0 W : World) (g all n m c : Nat) (B : Bks) (G : Nat → Prop) (A : Option Addr) (hS : SS w0 W g all n B G (.slice A m c) (ents 1 B)) (hn : n ≤ 60000) (hm2 : m ≤ 60000) (f0 : (Lit.int .i64 kd).wf = true) (f1 : (Lit.int .i64 wh).wf = true) (f2 : (Lit.int .i64 sz).wf = true) :
    Calls Try.prog 24 #[.agg #[.int .i64 kd, .int .i64 wh, .int .i64 sz], .pointer (some ⟨g, 0, none⟩), .slice A m c] W (StepPost w0 g all (n + 1)) := by
  have hr := pickN_range (x := kd) (n := 3) (by omega)
  by_cases h0 : pickN kd 3 = 0
  · exact step_take0 kd wh sz w0 W g all n m c B G A hS hn h0 hm2 f0 f2
  · by_cases hm : m = 0
    · exact step_takem kd wh sz w0 W g all n m c B G A hS hn (by omega) hm hm2 f0 f2
    · by_cases h1 : pickN kd 3 = 1
      · exact step_drop kd wh sz w0 W g all n m c B G A hS hn h1 (by omega) hm2 f0 f1
      · exact step_set kd wh sz w0 W g all n m c B G A hS hn (by omega) (by omega) hm2 f0 f1
end Go.Proofs.Ytnanacokclcbfaa.Ar
