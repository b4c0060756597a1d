/- The document's Release and Drop of a count, by contracts (under way). -/
import Derived.Test.YtbldebjdgenfdaaRefFixL
namespace Go.Proofs.Ytbldebjdgenfdaa.Fx
open Go.RowKit K
set_option linter.unusedVariables false
set_option linter.unusedSimpArgs false

theorem RC.cell {w : World} {G : Nat → Prop} {h : Nat} {L : List Int} (hT : RC w G h L) : ∃ A0 c0, w.cell? ⟨h, 0, none⟩ = some (.slice A0 L.length c0) := by
  obtain ⟨v, fl, fg, fv, hB, hR⟩ := hT
  obtain ⟨A0, c0, rfl, _, _⟩ := ownsRow_form hR
  exact ⟨A0, c0, by rw [hB.cell]; rfl⟩
set_option maxRecDepth 100000 in
set_option maxHeartbeats 4000000 in
theorem rrelease_any (h : Nat) (L : List Int) (p : Int) (w : World) (G : Nat → Prop) (hT : RC w G h L) (hL : L.length ≤ 65536) :
    Calls Try.prog 23 #[.pointer (some ⟨h, 0, none⟩), .int .i64 p] w fun e w' => e = .returned (.tuple #[.bool (rlB L p), .int .i64 (rlE L p)]) ∧ RMoved w G h (less L p 1) w' := by
  obtain ⟨y, hy⟩ : ∃ y : Int, (cnt L p : Int) = y := ⟨_, rfl⟩
  have HO := Lib.hid (hy ▸ rof_any h L p w G hT hL)
  have HL := Lib.hid (rless_any h L p 1 w G hT hL (by omega))
  by_cases hc : cnt L p = 0
  · have E1 := Lib.hid (show rlB L p = false from by unfold rlB; simp [hc])
    have E2 := Lib.hid (show rlE L p = 9 from by unfold rlE; rw [if_pos hc])
    have E3 := Lib.hid (show less L p 1 = L from less_absent (fun hm => by have := cnt_pos.2 hm; omega) 1)
    have HT := Lib.hid (RMoved.stay hT)
    have hy0 : y = 0 := by omega
    subst hy0
    clear hc hy hT
    go_enter Try.func23, Try.ntmps23
    go_wp2_with (first | (go_at_call 10; refine HO.out.mono ?_; rintro e w1 ⟨rfl, rfl⟩) | fail)
    go_ret2
    exact ⟨by rw [E1.out, E2.out]; rfl, by rw [E3.out]; exact HT.out⟩
  · have hlen := less_length L p 1 (by omega)
    have E2 := Lib.hid (show rlE L p = 0 from by unfold rlE; rw [if_neg hc])
    have E1 := Lib.hid (show rlB L p = decide (((less L p 1).length : Int) = 0) from by unfold rlB; apply decide_eq_decide.2; omega)
    have hne : (y == 0) = false := by simp; omega
    clear hc hy hT hlen
    go_enter Try.func23, Try.ntmps23
    go_wp2_with (first | (go_at_call 10; refine HO.out.mono ?_; rintro e w1 ⟨rfl, rfl⟩) | fail)
    refine HL.out.mono ?_
    rintro e w2 ⟨rfl, hm⟩
    obtain ⟨A5, c5, hc5⟩ := hm.choose_spec.1.cell
    have HM := Lib.hid hm
    clear hm
    go_wp2_with fail
    go_ret2
    refine ⟨?_, HM.out⟩
    rw [E1.out, E2.out]
    rfl
theorem RMoved.drewN' {w w' : World} {G : Nat → Prop} {h : Nat} {L : List Int} (hm : RMoved w G h L w') (k : Nat) : RMoved w G h L (w'.drewN k) := by
  obtain ⟨G', ⟨v, r⟩, h2, h3⟩ := hm
  exact ⟨G', ⟨v, r⟩, h2, h3.drewN k⟩
set_option maxRecDepth 100000 in
set_option maxHeartbeats 4000000 in
theorem rdrop_any (h : Nat) (L : List Int) (p : Int) (w : World) (G : Nat → Prop) (hT : RC w G h L) (hL : L.length ≤ 65536) :
    Calls Try.prog 24 #[.pointer (some ⟨h, 0, none⟩), .int .i64 p] w fun e w' => e = .returned (.tuple #[.int .i64 (cnt L p : Int), .bool (dpB L p)]) ∧ RMoved w G h (less L p (cnt L p)) w' := by
  have hcl := cnt_le L p
  have HO := Lib.hid (rof_any h L p w G hT hL)
  have HL := Lib.hid (rless_any h L p (cnt L p) w G hT hL (by omega))
  have hlen := less_length L p (cnt L p) (Nat.le_refl _)
  have E1 := Lib.hid (show dpB L p = (decide (0 < (cnt L p : Int)) && decide (((less L p (cnt L p)).length : Int) = 0)) from by
    unfold dpB
    rw [← Bool.decide_and]
    apply decide_eq_decide.2
    omega)
  clear hT hlen
  by_cases h0 : 0 < cnt L p
  · have h0' : (0 : Int) < (cnt L p : Int) := by omega
    go_enter Try.func24, Try.ntmps24
    go_wp2_with (first | (go_at_call 10; refine HO.out.mono ?_; rintro e w1 ⟨rfl, rfl⟩) | fail)
    refine HL.out.mono ?_
    rintro e w2 ⟨rfl, hm⟩
    obtain ⟨A5, c5, hc5⟩ := hm.choose_spec.1.cell
    have HM := Lib.hid hm
    clear hm
    go_wp2_with fail
    go_quiet (fail)
    go_wp2_with fail
    go_ret2
    refine ⟨?_, HM.out.drewN' _⟩
    rw [E1.out, show decide (0 < (cnt L p : Int)) = true from decide_eq_true h0']
    rfl
  · have h0' : (cnt L p : Int) = 0 := by omega
    have E4 := Lib.hid (show dpB L p = false from by unfold dpB; simp [h0])
    have HO' := Lib.hid (by have h := HO.out; rw [h0'] at h; exact h)
    have HL' := Lib.hid (by have h := HL.out; rw [h0'] at h; exact h)
    rw [h0', E4.out]
    clear E1 E4 HO HL h0'
    go_enter Try.func24, Try.ntmps24
    go_wp2_with (first | (go_at_call 10; refine HO'.out.mono ?_; rintro e w1 ⟨rfl, rfl⟩) | fail)
    refine HL'.out.mono ?_
    rintro e w2 ⟨rfl, hm⟩
    have HM := Lib.hid hm
    clear hm
    go_wp2_with fail
    go_quiet (fail)
    go_wp2_with fail
    go_ret2
    exact ⟨rfl, HM.out.drewN' _⟩
end Go.Proofs.Ytbldebjdgenfdaa.Fx
