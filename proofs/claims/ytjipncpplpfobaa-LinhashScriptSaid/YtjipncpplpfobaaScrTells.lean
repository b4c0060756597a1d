/- tenurelaw10.tells: what both tell, by its contract. -/
import Derived.Test.YtjipncpplpfobaaScrD
namespace Go.Proofs.Ytjipncpplpfobaa.Lb
open Go.RowKit K Hs
set_option linter.unusedVariables false
set_option linter.unusedSimpArgs false

set_option maxRecDepth 100000 in
set_option maxHeartbeats 16000000 in
theorem tells_any (X : Nat → Prop) (w0 : World) (g least h M : Nat) (L : List (List It)) (W : World) (hD : DX X w0 g least (tot L : Int) h L L W) (hK : Kp least M L) (hM : M ≤ 61) :
    Calls Try.prog 11 #[.pointer (some ⟨g, 0, none⟩), .pointer (some ⟨h, 0, none⟩)] W fun e w' => e = .returned (.bool true) ∧ Below W.heap.size W w' := by
  have hO := hK.ok (by omega)
  obtain ⟨m, hm⟩ : ∃ m, L.length = m := ⟨_, rfl⟩
  obtain ⟨t, ht⟩ : ∃ t, (tot L : Int) = t := ⟨_, rfl⟩
  obtain ⟨q, hq⟩ : ∃ q, wantsI least t m = q := ⟨_, rfl⟩
  have HD := Lib.hid hD
  have H1 := Lib.hid (fun d => d_len (hD.drewN d))
  have H2 := Lib.hid (fun d => e_len (hD.drewN d) hO)
  have H3 := Lib.hid (fun d => d_count (hD.drewN d))
  have H4 := Lib.hid (fun d => d_wants (hD.drewN d) hO)
  have H5 := Lib.hid (fun d => e_wants (hD.drewN d) hO)
  rw [ht] at H1 H2
  rw [hm] at H3
  rw [ht, hm, hq] at H4 H5
  obtain ⟨gr, cap, j0, _⟩ := e_cells hD
  rw [hm] at j0
  have HO := Lib.hid hO
  have HM := Lib.hid hm
  have hmb : m ≤ 65536 := by have := hO.2.1; omega
  have b0 : (0 : Int) ≤ (m : Int) := by omega
  clear hD hK hM hO ht hq hm
  go_enter Try.func11, Try.ntmps11
  go_wp2_with fail
  go_quiet (first
    | (go_at_call 16; exact quiet_left (H1.out _))
    | (go_at_call 35; exact quiet_left (H2.out _))
    | (go_at_call 17; exact quiet_left (H3.out _))
    | (go_at_call 18; exact quiet_more (H4.out _))
    | (go_at_call 36; exact quiet_more (H5.out _)))
  clear H1 H2 H3 H4 H5 j0
  go_wp2_with fail
  go_loopw [5] (fun i wr => ∃ k : Nat, k ≤ m ∧ i = .int .i64 (k : Int) ∧ Below W.heap.size W wr) (fun i _ => m - (intOf i).toNat)
  case atStart => exact ⟨0, Nat.zero_le _, rfl, ⟨rfl, rfl, rfl, Nat.le_refl _, fun _ _ => rfl⟩⟩
  case round =>
    obtain ⟨k, hk, rfl, hb⟩ := hrel
    have HB := Lib.hid hb
    have HDr := Lib.hid (HD.out.later hb)
    obtain ⟨gr, cap, j0, hrow⟩ := e_cells HDr.out
    rw [HM.out] at j0
    clear hb
    by_cases hlt : k < m
    · obtain ⟨l, hl⟩ : ∃ l, L[k]? = some l := ⟨_, List.getElem?_eq_getElem (by rw [HM.out]; exact hlt)⟩
      have HLL := Lib.hid (show l.length ≤ 1099511627776 from by have := HO.out.2.2.2.2.1 l (List.mem_of_getElem? hl); omega)
      obtain ⟨A', c', j1, hr2⟩ := hrow k l hl
      have HR2 := Lib.hid hr2
      have HC := Lib.hid (d_at HDr.out HO.out k l hl)
      have hkb : k ≤ 65536 := by omega
      have hk0 : (0 : Int) ≤ (k : Int) := by omega
      have hk1 : (k : Int) < (m : Int) := by omega
      have HKC := Lib.hid (show ∀ w1, Below wr.heap.size wr w1 → w1.cell? ⟨h, 1, none⟩ = some (.slice (some ⟨gr, 0, none⟩) m cap) ∧ w1.cell? ⟨gr, k, none⟩ = some (.slice A' l.length c') from fun w1 hb => ⟨(hb.cell (p := ⟨h, 1, none⟩) (World.block_lt_of_cell? _ _ j0)).trans j0, (hb.cell (p := ⟨gr, k, none⟩) (World.block_lt_of_cell? _ _ j1)).trans j1⟩)
      clear hrow hr2 hl
      go_wp2_with fail
      refine HC.out.mono ?_
      rintro e w1 ⟨v, rfl, ho1, hb1⟩
      obtain ⟨A, c, rfl, hr1⟩ := own_rdI ho1
      obtain ⟨u1, u2⟩ := HKC.out _ hb1
      have HR1 := Lib.hid hr1
      have HR3 := Lib.hid (HR2.out.below hb1)
      have HB1 := Lib.hid (HB.out.trans (hb1.mono HB.out.size))
      clear ho1 hb1 hr1 j0 j1
      go_wp2_with fail
      refine (sameItems_yes A A' c c' _ _ l w1 HR1.out HR3.out HLL.out).mono ?_
      rintro e w2 ⟨rfl, d, rfl⟩
      go_wp2_with fail
      go_roundw
      case rel => exact ⟨k + 1, by omega, by go_num, HB1.out.trans ⟨rfl, rfl, rfl, Nat.le_refl _, fun _ _ => rfl⟩⟩
      case measure => simp [intOf]; omega
    · obtain rfl : k = m := by omega
      clear hrow
      go_wp2_with fail
      go_ret
      exact ⟨ret1_b rfl, HB.out⟩
end Go.Proofs.Ytjipncpplpfobaa.Lb
