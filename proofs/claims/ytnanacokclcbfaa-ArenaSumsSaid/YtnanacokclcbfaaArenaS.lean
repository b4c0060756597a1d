/- Set of an arena, by its contract. -/
import Derived.Test.YtnanacokclcbfaaArenaG
namespace Go.Proofs.Ytnanacokclcbfaa.Ar
open Go.RowKit K
set_option linter.unusedVariables false
set_option linter.unusedSimpArgs false

def stE (B : Bks) (k : Int) (m : Nat) : Int := match bAt B k with
  | none => 6
  | some was => if rndI (m : Int) = rndI (was.length : Int) then 0 else 2
def stB (B : Bks) (k : Int) (ws : List Int) : Bks := match bAt B k with
  | none => B
  | some was => if rndI (ws.length : Int) = rndI (was.length : Int) then B.set (k - 1).toNat (some ws) else B
theorem rnd_pos {n : Nat} (h1 : 1 ≤ n) (h2 : n ≤ 16777216) : 1 ≤ rnd n := by have := rnd_ge h1 h2; omega
theorem rndI_same {a b : Nat} (hb1 : 1 ≤ b) (hb2 : b ≤ 16777216) (h : rndI (a : Int) = rndI (b : Int)) : 1 ≤ a ∧ a ≤ 16777216 ∧ rnd a = rnd b := by
  rw [rndI_nat hb1 hb2] at h
  have hp := rnd_pos hb1 hb2
  unfold rndI at h
  by_cases hz : (a : Int) < 1 ∨ 16777216 < (a : Int)
  · rw [if_pos hz] at h; omega
  · rw [if_neg hz] at h
    refine ⟨by omega, by omega, ?_⟩
    have e : (a : Int).toNat = a := by omega
    rw [e] at h
    omega

set_option maxRecDepth 100000 in
set_option maxHeartbeats 4000000 in
theorem set_any (g all n : Nat) (B : Bks) (k : Int) (A : Option Addr) (c : Nat) (ws : List Int) (w : World) (F : Nat → Prop) (hT : AR w F g all n B) (hk : (Lit.int .i64 k).wf = true) (hx : Reads w w.heap.size 1 A ws.length (wds ws)) (hA : A = none → c = 0)
    (hl : ws.length ≤ maxLen) (hn : n < 1099511627776) :
    Calls Try.prog 19 #[.pointer (some ⟨g, 0, none⟩), .int .i64 k, .slice A ws.length c] w fun e w' => e = .returned (.int .i64 (stE B k ws.length)) ∧ Moved w F g all (n + 1) (stB B k ws) w' := by
  have HT := Lib.hid (Moved.stay (hT.more (Nat.le_succ n)))
  have hkey : keyOf Try.prog 3 (.int .i64 k) = some (.int .i64 k) := Go.Maps.keyOf_int_mk Try.underlying3 hk
  have hl2 : ws.length ≤ 9223372036854775807 := by unfold maxLen at hl; exact hl
  obtain ⟨bm, D, fl, fg, fm, hB, hM, hD, h1, h2, h3, h4⟩ := hT
  have c3 : w.cell? ⟨g, 3, none⟩ = some (.map (some bm)) := by rw [hB.cell]; rfl
  obtain ⟨hh, ha⟩ := hD.2 k
  cases hb : bAt B k with
  | none =>
    have E1 := Lib.hid (show stE B k ws.length = 6 from by unfold stE; rw [hb])
    have E2 := Lib.hid (show stB B k ws = B from by unfold stB; rw [hb])
    rw [hb] at hh
    have HF := Lib.hid (find_no g bm n D k w c3 hM hk hh)
    clear ha hD hM hB hh hb h4 hx
    go_enter Try.func19, Try.ntmps19
    go_wp2_with (first
      | (go_at_call 29; refine HF.out.mono ?_; rintro e w1 ⟨rfl, rfl⟩))
    go_ret
    exact ⟨ret1_i E1.out.symm, by rw [E2.out]; exact HT.out⟩
  | some was =>
    rw [hb] at hh
    obtain ⟨v, hv, hR, _⟩ := ha was hb
    obtain ⟨A0, c0, rfl, _, _⟩ := ownsRow_form hR
    obtain ⟨l1, l2⟩ := h4.at_ hb
    obtain ⟨k1, k2, hgt⟩ := bAt_some hb
    have HF := Lib.hid (find_yes g bm n D k _ w c3 hM hk hh hv)
    by_cases hs : rndI (ws.length : Int) = rndI (was.length : Int)
    · have E1 := Lib.hid (show stE B k ws.length = 0 from by unfold stE; rw [hb]; exact if_pos hs)
      have E2 := Lib.hid (show stB B k ws = B.set (k - 1).toNat (some ws) from by unfold stB; rw [hb]; exact if_pos hs)
      obtain ⟨m1, m2, hr⟩ := rndI_same l1 l2 hs
      have hus := used_set hgt ws
      obtain ⟨q, hq⟩ : ∃ q, rnd ws.length = q := ⟨_, rfl⟩
      have HR1 := Lib.hid (fun w => hq ▸ round_nat ws.length m1 m2 w)
      have HR2 := Lib.hid (fun w => (hr.symm.trans hq) ▸ round_nat was.length l1 l2 w)
      have hbg : bm ≠ g := map_blk_ne hM hB
      have HB := Lib.hid hB; have HM := Lib.hid hM; have HD := Lib.hid hD; have H4 := Lib.hid h4; have HU := Lib.hid hus; have HQ := Lib.hid hr
      have HX := Lib.hid hx
      have hg1 := hB.lt
      have hbm := hM.lt
      have hnm : n < maxLen := by unfold maxLen; omega
      clear ha hD hB hh hb h4 hR hv hgt hus hq hs hr hx
      go_enter Try.func19, Try.ntmps19
      go_wp2_with (first
        | (go_at_call 29; refine HF.out.mono ?_; rintro e w1 ⟨rfl, rfl⟩)
        | fail)
      refine (HR1.out _).mono ?_
      rintro e w1 ⟨rfl, rfl⟩
      go_wp2_with fail
      refine (HR2.out _).mono ?_
      rintro e w1 ⟨rfl, rfl⟩
      go_wp2_with fail
      have HCl := Lib.hid (clone_u64 A ws.length c w.heap.size (wds ws) w.drew HX.out.drew (Nat.le_refl _) (wds_one ws) (by omega) hA)
      go_region_held3 (fun w' => w'.cell? ⟨g, 3, none⟩ = some (.map (some bm))) (first | exact c3 | exact e3 | exact k3) (first
        | (go_at_call 28
           refine HCl.out.mono ?_
           rintro e w2 ⟨v2, rfl, hR2, hb2'⟩
           have hb2 : Below w.heap.size w w2 := ⟨hb2'.os, hb2'.tape, hb2'.output, hb2'.size, hb2'.block⟩
           clear hb2'
           obtain ⟨A2, cp2, rfl, hcp1, hcp2⟩ := ownsRow_form hR2
           have hB2 := HB.out.below hb2 hg1
           have hM2 := ownsMap_below hM hb2 hbm
           have e3 : w2.cell? ⟨g, 3, none⟩ = some (.map (some bm)) := by rw [hB2.cell]; rfl
           obtain ⟨w3, hrun, hM3, hg3⟩ := World.ownsMap.update hM2 (t := 49) law Try.underlying49 hnm hkey (show RV (.slice A2 ws.length cp2) = some (.held (.slice A2 ws.length cp2), []) from rfl)
           have hB3 := hB2.grown hg3 (by simpa using fun e => hbg e.symm)
           have k3 : w3.cell? ⟨g, 3, none⟩ = some (.map (some bm)) := by rw [hB3.cell]; rfl)
        | fail)
      go_wp2_with fail
      go_ret
      refine ⟨ret1_i E1.out.symm, ?_⟩
      rw [E2.out]
      have hu2 : used (B.set (k - 1).toNat (some ws)) = used B := by have := HU.out; have := HQ.out; omega
      refine moved_put fl fg fm ⟨_, HB.out⟩ HM.out HD.out (Keep.refl _ _) hb2 hg3 (Keep.refl _ _) hM3 ?_ hR2 (bAt_set k1 k2 (some ws)) h1 (by rw [hu2]; exact h2) (by simp; omega) (H4.out.set m1 m2 _)
      rw [hu2]
      simpa using hB3
    · have E1 := Lib.hid (show stE B k ws.length = 2 from by unfold stE; rw [hb]; exact if_neg hs)
      have E2 := Lib.hid (show stB B k ws = B from by unfold stB; rw [hb]; exact if_neg hs)
      obtain ⟨x, hxx⟩ : ∃ x, rndI (ws.length : Int) = x := ⟨_, rfl⟩
      obtain ⟨y, hyy⟩ : ∃ y, rndI (was.length : Int) = y := ⟨_, rfl⟩
      rw [hxx, hyy] at hs
      have hne : (x == y) = false := by simpa using hs
      have hne2 : (x != y) = true := by simpa using hs
      have HR1 := Lib.hid (fun w => hxx ▸ round_any (ws.length : Int) (WalkArith.wf_i64 (by omega)) w)
      have HR2 := Lib.hid (fun w => hyy ▸ round_any (was.length : Int) (WalkArith.wf_i64 (by omega)) w)
      clear ha hD hM hB hh hb h4 hR hv hgt hx hxx hyy hs
      go_enter Try.func19, Try.ntmps19
      go_wp2_with (first
        | (go_at_call 29; refine HF.out.mono ?_; rintro e w1 ⟨rfl, rfl⟩)
        | fail)
      refine (HR1.out _).mono ?_
      rintro e w1 ⟨rfl, rfl⟩
      go_wp2_with fail
      refine (HR2.out _).mono ?_
      rintro e w1 ⟨rfl, rfl⟩
      go_wp2_with fail
      go_ret
      exact ⟨ret1_i E1.out.symm, by rw [E2.out]; exact HT.out⟩
end Go.Proofs.Ytnanacokclcbfaa.Ar
