/- settled, by its contract: two steps are enough. -/
import Derived.Test.YtjipncpplpfobaaLbBand
namespace Go.Proofs.Ytjipncpplpfobaa.Lb
open Go.RowKit K Hs
set_option linter.unusedVariables false
set_option linter.unusedSimpArgs false

set_option maxRecDepth 100000 in
set_option maxHeartbeats 8000000 in
theorem settled_any {X : Nat → Prop} {w0 W : World} {g least : Nat} {n : Nat} {L : List (List It)} {all : List It} (hn : all.length = n) (hS : St X w0 g least (n : Int) L W) (hI : Inv L all) (hN : Near 0 least n L.length) (hl : n ≤ 60000) (h1 : 1 ≤ least) (hm : L.length ≤ 50000) :
    Calls Try.prog 25 #[.pointer (some ⟨g, 0, none⟩)] W fun e w' => e = .returned (.bool true) ∧ ∃ L', St X w0 g least (n : Int) L' w' ∧ Inv L' all ∧ Band least n L'.length ∧ L'.length ≤ L.length + 2 := by
  have HS := Lib.hid hS
  have HI := Lib.hid hI
  have HN := Lib.hid hN
  obtain ⟨m0, hm0⟩ : ∃ m, L.length = m := ⟨_, rfl⟩
  rw [hm0] at hm HN ⊢
  clear hS hI hN
  go_enter Try.func25, Try.ntmps25
  go_wp2_with fail
  go_loopw [3] (fun i wr => ∃ (k : Nat) (L' : List (List It)), k ≤ 2 ∧ i = .int .i64 (k : Int) ∧ St X w0 g least (n : Int) L' wr ∧ Inv L' all ∧ Near k least n L'.length ∧ L'.length ≤ m0 + k) (fun i _ => 2 - (intOf i).toNat)
  case atStart => exact ⟨0, L, by omega, rfl, HS.out, HI.out, by rw [hm0]; exact HN.out, by omega⟩
  case round =>
    obtain ⟨k, L', hk, rfl, hS, hI, hN, hL⟩ := hrel
    have HI' := Lib.hid hI
    have HN' := Lib.hid hN
    have hlm := hN.1
    have HOK := Lib.hid (hn ▸ hI.ok (by omega))
    have HS' := Lib.hid hS
    have hmm := hI.m1
    clear hS hI HS HI HN hN
    obtain ⟨m, hmq⟩ : ∃ m, L'.length = m := ⟨_, rfl⟩
    have HW := Lib.hid (fun wx (h : St X w0 g least (n : Int) L' wx) => st_wants h HOK.out)
    rw [hmq] at HN' hL hlm hmm HW
    by_cases hB : Band least n m
    · have HB := Lib.hid hB
      rw [(wants_zero (by omega) hlm).2 hB] at HW
      have HF := Lib.hid (show ∃ L'', St X w0 g least (n : Int) L'' wr ∧ Inv L'' all ∧ Band least n L''.length ∧ L''.length ≤ m0 + 2 from ⟨L', HS'.out, HI'.out, by rw [hmq]; exact hB, by omega⟩)
      have HF2 := Lib.hid (show ∀ d, ∃ L'', St X w0 g least (n : Int) L'' (wr.drewN d) ∧ Inv L'' all ∧ Band least n L''.length ∧ L''.length ≤ m0 + 2 from fun d => ⟨L', HS'.out.drewN d, HI'.out, by rw [hmq]; exact hB, by omega⟩)
      clear hB hm0 hn hmq hL hlm hmm hl hm
      have hk3 : k = 0 ∨ k = 1 ∨ k = 2 := by omega
      rcases hk3 with rfl | rfl | rfl
      · go_wp2_with fail
        refine (HW.out _ HS'.out).mono ?_
        rintro e w1 ⟨rfl, d, rfl⟩
        go_wp2_with fail
        go_ret
        exact ⟨rfl, HF2.out d⟩
      · go_wp2_with fail
        refine (HW.out _ HS'.out).mono ?_
        rintro e w1 ⟨rfl, d, rfl⟩
        go_wp2_with fail
        go_ret
        exact ⟨rfl, HF2.out d⟩
      · go_wp2_with fail
        go_ret
        exact ⟨rfl, HF.out⟩
    · have hk2 : k < 2 := by
        rcases Nat.lt_or_ge k 2 with h | h
        · exact h
        · obtain rfl : k = 2 := by omega
          exact absurd (near_two HN'.out) hB
      have hkk : (k : Int) < 2 := by omega
      by_cases hw : 2 * m < n
      · have hwv : wantsI least (n : Int) m = 1 := by unfold wantsI; rw [if_pos (by omega)]
        rw [hwv] at HW
        have HSp := Lib.hid (fun wx (h : St X w0 g least (n : Int) L' wx) => st_split h HOK.out)
        have HI2 := Lib.hid (HI'.out.split (by omega))
        have HN2 := Lib.hid (show Near (k + 1) least n (splitL L').length from by rw [splitL_len, hmq]; exact near_split hk2 HN'.out hw hmm)
        have hl2 : (splitL L').length ≤ m0 + (k + 1) := by rw [splitL_len]; omega
        have hml : 2 - (k + 1) < 2 - k := by omega
        clear hB hw hwv hm0 hmq hL hlm hmm hl hm hn
        go_wp2_with fail
        refine (HW.out _ HS'.out).mono ?_
        rintro e w1 ⟨rfl, d, rfl⟩
        go_wp2_with fail
        refine (HW.out _ (HS'.out.drewN d)).mono ?_
        rintro e w1 ⟨rfl, d2, rfl⟩
        go_wp2_with fail
        refine (HSp.out _ (HS'.out.drewN (d + d2))).mono ?_
        rintro e w3 ⟨rfl, hS3⟩
        have HS3 := Lib.hid hS3
        clear hS3
        go_wp2_with fail
        go_roundw
        case rel => exact ⟨k + 1, _, by omega, by go_num, HS3.out, HI2.out, HN2.out, hl2⟩
        case measure => simp [intOf]; omega
      · have hj : least < m ∧ 2 * n < m := by unfold Band at hB; omega
        have hwv : wantsI least (n : Int) m = -1 := by unfold wantsI; rw [if_neg (by omega), if_pos (by omega)]
        rw [hwv] at HW
        have hll : least < L'.length := by omega
        have HJ := Lib.hid (fun wx (h : St X w0 g least (n : Int) L' wx) => st_join h HOK.out h1 hll)
        have HI2 := Lib.hid (HI'.out.join (by omega))
        have hjl : (joinL L').length = m - 1 := by unfold joinL; rw [putAll_len, List.length_take]; omega
        have HN2 := Lib.hid (show Near (k + 1) least n (joinL L').length from by rw [hjl]; exact near_join hk2 HN'.out hj)
        have hl2 : (joinL L').length ≤ m0 + (k + 1) := by omega
        clear hB hw hwv hm0 hmq hL hlm hmm hl hm hj hjl hll hn
        go_wp2_with fail
        refine (HW.out _ HS'.out).mono ?_
        rintro e w1 ⟨rfl, d, rfl⟩
        go_wp2_with fail
        refine (HW.out _ (HS'.out.drewN d)).mono ?_
        rintro e w1 ⟨rfl, d2, rfl⟩
        go_wp2_with fail
        refine (HJ.out _ (HS'.out.drewN (d + d2))).mono ?_
        rintro e w3 ⟨rfl, hS3⟩
        have HS3 := Lib.hid hS3
        clear hS3
        go_wp2_with fail
        go_roundw
        case rel => exact ⟨k + 1, _, by omega, by go_num, HS3.out, HI2.out, HN2.out, hl2⟩
        case measure => simp [intOf]; omega
end Go.Proofs.Ytjipncpplpfobaa.Lb
