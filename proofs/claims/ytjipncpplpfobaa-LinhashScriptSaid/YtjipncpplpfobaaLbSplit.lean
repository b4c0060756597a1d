/- linhash: Split, by its contract. -/
import Derived.Test.YtjipncpplpfobaaLbSplitA
namespace Go.Proofs.Ytjipncpplpfobaa.Lb
open Go.RowKit K Hs
set_option linter.unusedVariables false
set_option linter.unusedSimpArgs false

set_option maxRecDepth 100000 in
set_option maxHeartbeats 16000000 in
theorem split_any {w : World} {G : Nat → Prop} {g least gr cap : Nat} {cnt : Int} {L : List (List It)} (hB : LB w G g least cnt gr cap L) (m1 : 1 ≤ L.length) (m2 : L.length ≤ 65536) (hl : ∀ l ∈ L, l.length ≤ 1099511627776) (hh : ∀ l ∈ L, ∀ x ∈ l, 0 ≤ x.1 ∧ x.1 ≤ 4294967295) :
    Calls Try.prog 19 #[.pointer (some ⟨g, 0, none⟩)] w fun e w' => e = .returned (.int .i64 0) ∧ (∃ gr' cap', LB w' (upG G w w') g least cnt gr' cap' (splitL L)) ∧ Keep G w w' := by
  obtain ⟨q0, q1, q2, f0, f1, f2, g1, g2, n1, n2, hne⟩ := hB.cells
  obtain ⟨gr', cap', w1, hrun, hR1, hk1⟩ := push_run hB.2.2.2 (by omega)
  have hO := hB.outer hk1 hR1
  obtain ⟨m, hm⟩ : ∃ m, L.length = m := ⟨_, rfl⟩
  have e1 : (L ++ [[]]).length = m + 1 := by simp [hm]
  rw [e1] at hO
  rw [hm] at q2 hrun m1 m2
  have HN := Lib.hid (none_no g gr m cap w q2)
  have k2 : w1.cell? ⟨g, 2, none⟩ = some (.slice (some ⟨gr, 0, none⟩) m cap) := (hk1.cell (p := ⟨g, 2, none⟩) g1 hne).trans q2
  have kf : w1.frozen? ⟨g, 2, none⟩ = false := (hk1.frozen (p := ⟨g, 2, none⟩) g1 hne).trans f2
  obtain ⟨W2, hW2⟩ : ∃ W2, w1.setCell ⟨g, 2, none⟩ (.slice (some ⟨gr', 0, none⟩) (m + 1) cap') = W2 := ⟨_, rfl⟩
  rw [hW2] at hO
  obtain ⟨hO1, hO2⟩ := hO
  have j2 : W2.cell? ⟨g, 2, none⟩ = some (.slice (some ⟨gr', 0, none⟩) (m + 1) cap') := by have := hO1.cells.2.2.1; rwa [e1] at this
  have hfl := frm_lt m1
  obtain ⟨fr, hfr⟩ : ∃ fr, frm m = fr := ⟨_, rfl⟩
  rw [hfr] at hfl
  obtain ⟨lst, hlst⟩ : ∃ l, L[fr]? = some l := ⟨_, List.getElem?_eq_getElem (by omega)⟩
  have hf1 : (L ++ [[]])[fr]? = some lst := by rw [List.getElem?_append_left (by omega)]; exact hlst
  have hm1 : (L ++ [[]])[m]? = some [] := by rw [← hm, List.getElem?_append_right (Nat.le_refl _)]; simp
  obtain ⟨A, c, jc, xx1, xx2, xx3, xx4⟩ := hO1.2.2.2.spot hf1
  clear xx1 xx2 xx3 xx4
  have hlen := hl lst (List.mem_of_getElem? hlst)
  have hhl := hh lst (List.mem_of_getElem? hlst)
  have HS0 := Lib.hid (SpI.start (m := m) hO1 hO2 jc hm1)
  have hspl : splitL L = ((L ++ [[]]).set m (goL m lst)).set fr (stayL m lst) := by
    unfold splitL
    rw [hm, hfr, List.getD_eq_getElem?_getD, hlst]
    rfl
  rw [hspl]
  obtain ⟨L1, hL1⟩ : ∃ L1, L ++ [[]] = L1 := ⟨_, rfl⟩
  rw [hL1] at e1 hf1 hm1 HS0 ⊢
  have HG := Lib.hid hB.1
  have HRUN := Lib.hid hrun
  have HW2 := Lib.hid hW2
  have HHL := Lib.hid hhl
  have HFR := Lib.hid (show ∀ j : Nat, 2 ^ j ≤ m → m < 2 ^ (j + 1) → m - 2 ^ j = fr from fun j a b => hfr ▸ (frm_is a b).symm)
  have hll : lst.length < 9223372036854775807 := by omega
  have hfrm : (fr : Int) < ((m : Int) + 1) := by omega
  have hmm : (m : Int) < ((m : Int) + 1) := by omega
  have hmz : (0 : Int) ≤ (m : Int) := by omega
  have hmb : decide ((1048576 : Int) ≤ (m : Int)) = false := decide_eq_false (by omega)
  have HM2 := Lib.hid m2
  clear m2 hB hR1 hk1 hrun hW2 hO1 hO2 hl hh hhl hm hlst hspl hL1 hfr n1 n2 q0 q1 f0 f1
  go_enter Try.func19, Try.ntmps19
  go_wp2_with (first
    | (go_at_call 37; refine HN.out.mono ?_; rintro e w' ⟨rfl, rfl⟩)
    | (at_builtin; refine wpList_append_run (o := ⟨some 30, _, _, _, _, _⟩) (.tmp 28) (.tmp 29) 37 _ _ _ HRUN.out rfl rfl (by simp [Act.eval, Act.put]) (by simp [Act.eval, Act.put]) ?_)
    | fail)
  rw [HW2.out]
  clear k2 kf HRUN HN
  go_loop [4, 5] (fun f p => ∃ j q : Nat, q = 2 ^ j ∧ 1 ≤ q ∧ q ≤ 2 * m ∧ p = .int .i64 (q : Int) ∧ (j = 0 ∧ f = .int .i64 (m : Int) ∨ ∃ i r : Nat, j = i + 1 ∧ r = 2 ^ i ∧ r ≤ m ∧ f = .int .i64 ((m : Int) - (r : Int)))) (fun _ p => 2 * m + 1 - (intOf p).toNat)
  case atStart => exact ⟨0, 1, rfl, by omega, by omega, rfl, .inl ⟨rfl, rfl⟩⟩
  case round =>
    obtain ⟨j, q, hq, hq1, hq2, rfl, hf⟩ := hrel
    by_cases hlt : q ≤ m
    · have HQ := Lib.hid hq
      have hq64 : q ≤ 65536 := by have := HM2.out; omega
      clear hq hf HS0
      go_wp2_with fail
      have hw64 : wrap64 ((m : Int) - (q : Int)) = (m : Int) - (q : Int) := by have := HM2.out; unfold wrap64; omega
      refine ⟨⟨j + 1, 2 * q, by rw [HQ.out, Nat.pow_succ]; omega, by omega, by omega, by go_num, .inr ⟨j, q, rfl, HQ.out, hlt, by rw [hw64]⟩⟩, by simp [intOf]; omega⟩
    · rcases hf with ⟨rfl, hf0⟩ | ⟨i, r, rfl, hr, hrm, rfl⟩
      · exfalso
        simp at hq
        omega
      have hfe : ((m : Int) - (r : Int)) = (fr : Int) := by
        have := HFR.out i (by omega) (by omega)
        omega
      rw [hfe]
      clear hq hr hrm hfe hq1 hq2 HFR
      go_wp2_with fail
      go_loopw [6, 50] (fun s i wr => ∃ (k : Nat) (A6 : Option Addr) (n6 c6 : Nat), k ≤ lst.length ∧ i = .int .i64 (k : Int) ∧ s = .slice A6 n6 c6 ∧ SpI w G g least cnt gr' cap' L1 m fr A c lst k A6 n6 c6 wr) (fun _ i _ => lst.length - (intOf i).toNat)
      case atStart => exact ⟨0, none, 0, 0, Nat.zero_le _, rfl, rfl, HS0.out⟩
      case round =>
        obtain ⟨k, A6, n6, c6, hk, rfl, rfl, hI⟩ := hrel
        have hne' : fr ≠ m := by omega
        by_cases hlt : k < lst.length
        · obtain ⟨⟨x, y⟩, hx⟩ : ∃ x, lst[k]? = some x := ⟨_, List.getElem?_eq_getElem hlt⟩
          obtain ⟨hrd, hb2⟩ := hI.rd hf1 hne'
          obtain ⟨gi, rfl, hgi, x0, x1⟩ := hrd k _ hx
          have hx2 := HHL.out _ (List.mem_of_getElem? hx)
          simp only at hx2 x0 x1
          obtain ⟨Wa, hWa⟩ : ∃ Wa, wr.alloc (.cells #[.int .u32 x, .int .i64 y] 54) = Wa := ⟨_, rfl⟩
          have hbx : Blk Wa wr.heap.size 54 #[.int .u32 x, .int .i64 y] := by rw [← hWa]; exact Blk.new _ _ _
          have hIa := hI.box (.cells #[.int .u32 x, .int .i64 y] 54)
          rw [hWa] at hIa
          have j2 : Wa.cell? ⟨g, 2, none⟩ = some (.slice (some ⟨gr', 0, none⟩) (m + 1) cap') := by have := (hIa.rd hf1 hne').2; rwa [e1] at this
          have jx : Wa.cell? ⟨wr.heap.size, 0, none⟩ = some (.int .u32 x) := by rw [hbx.cell]; rfl
          have jy : Wa.cell? ⟨wr.heap.size, 1, none⟩ = some (.int .i64 y) := by rw [hbx.cell]; rfl
          have jg : g < Wa.heap.size := World.block_lt_of_cell? _ _ j2
          have jb : wr.heap.size < Wa.heap.size := hbx.lt
          have HOF := Lib.hid (of_any g gr' (m + 1) cap' x Wa j2 hx2.1 hx2.2 (by omega) (by have := HM2.out; omega))
          have HWA := Lib.hid hWa
          by_cases e : bk x (m + 1) = m
          · rw [e] at HOF
            obtain ⟨Am, nm, cm, ga, ca, w3, jr, hrun, ⟨k2, k3, kf⟩, z2, hI3, ⟨kx, ky⟩, zx, zy⟩ := hI.go hWa hne' (by omega) hx e hlen
            rw [e1] at k2 z2
            simp only at kx ky zx zy hrun
            have HRUN := Lib.hid hrun
            obtain ⟨W3, hW3⟩ : ∃ W3, w3.setCell ⟨gr', m, none⟩ (.slice (some ⟨ga, 0, none⟩) (nm + 1) ca) = W3 := ⟨_, rfl⟩
            rw [hW3] at hI3
            have HW3 := Lib.hid hW3
            have HI3 := Lib.hid hI3
            have jr1 : (World.drew Wa).cell? ⟨gr', m, none⟩ = some (.slice Am nm cm) := jr
            have jr2 : ((World.drew Wa).alloc (.cells #[.int .u32 x, .int .i64 y] 54)).cell? ⟨gr', m, none⟩ = some (.slice Am nm cm) := (World.cell?_alloc_lt _ _ _ (World.block_lt_of_cell? _ _ jr1)).trans jr1
            have jr3 : (World.drew (Wa.alloc (.cells #[.int .u32 x, .int .i64 y] 54))).cell? ⟨gr', m, none⟩ = some (.slice Am nm cm) := jr2
            clear hI hIa hrd hx hx2 hWa hbx hrun hI3 hW3 e HS0
            go_wp2_with fail
            rw [HWA.out]
            refine HOF.out.mono ?_
            rintro e w' ⟨rfl, rfl⟩
            go_wp2_with fail
            refine wp_region_held_drew (S := fun wx => wx.cell? ⟨g, 2, none⟩ = some (.slice (some ⟨gr', 0, none⟩) (m + 1) cap') ∧ (wx.cell? ⟨wr.heap.size, 0, none⟩ = some (.int .u32 x) ∧ wx.cell? ⟨wr.heap.size, 1, none⟩ = some (.int .i64 y))) (by kernel_rfl) (by first | exact ⟨j2, jx, jy⟩ | exact ⟨(World.cell?_alloc_lt _ _ _ jg).trans j2, (World.cell?_alloc_lt _ _ _ jb).trans jx, (World.cell?_alloc_lt _ _ _ jb).trans jy⟩ | exact ⟨k2, kx, ky⟩ | exact ⟨z2, zx, zy⟩) (fun hHeld => ?_)
            refine wpAnyH_take (i := 0) (oi := ⟨some 60, _, _, _, _, _⟩) (v := ?_) rfl (by kernel_rfl) (by kernel_rfl) (by kernel_rfl) (fun _ _ _ h => h) (Or.inl ⟨by rfl, ?_⟩) (by assumption) ?_
            rotate_left
            · intro wS hSw; (try dsimp only at hSw); go_simp; try with_reducible rfl
            try simp only [Act.put, List.setIfInBounds_toArray, List.set_cons_zero, List.set_cons_succ]
            refine wpAnyH_take (i := 1) (oi := ⟨some 61, _, _, _, _, _⟩) (v := ?_) rfl (by kernel_rfl) (by kernel_rfl) (by kernel_rfl) (fun _ _ _ h => h) (Or.inl ⟨by rfl, ?_⟩) (by assumption) ?_
            rotate_left
            · intro wS hSw; (try dsimp only at hSw); go_simp; try with_reducible rfl
            try simp only [Act.put, List.setIfInBounds_toArray, List.set_cons_zero, List.set_cons_succ]
            refine wpAnyH_take (i := 2) (oi := ⟨some 62, _, _, _, _, _⟩) (v := ?_) rfl (by kernel_rfl) (by kernel_rfl) (by kernel_rfl) (fun _ _ _ h => h) (Or.inl ⟨by rfl, ?_⟩) (by assumption) ?_
            rotate_left
            · intro wS hSw; (try dsimp only at hSw); go_simp; try with_reducible rfl
            try simp only [Act.put, List.setIfInBounds_toArray, List.set_cons_zero, List.set_cons_succ]
            refine wpAnyH_take (i := 3) (oi := ⟨some 63, _, _, _, _, _⟩) (v := ?_) rfl (by kernel_rfl) (by kernel_rfl) (by kernel_rfl) (fun _ _ _ h => h) (Or.inl ⟨by rfl, ?_⟩) (by assumption) ?_
            rotate_left
            · intro wS hSw; (try dsimp only at hSw); go_simp; try with_reducible rfl
            try simp only [Act.put, List.setIfInBounds_toArray, List.set_cons_zero, List.set_cons_succ]
            refine wpAnyH_take (i := 4) (oi := ⟨some 64, _, _, _, _, _⟩) (v := ?_) rfl (by kernel_rfl) (by kernel_rfl) (by kernel_rfl) (fun _ _ _ h => h) (Or.inl ⟨by rfl, ?_⟩) (by assumption) ?_
            rotate_left
            · intro wS hSw; (try dsimp only at hSw); go_simp; try with_reducible rfl
            try simp only [Act.put, List.setIfInBounds_toArray, List.set_cons_zero, List.set_cons_succ]
            refine wpAnyH_take (i := 5) (oi := ⟨some 65, _, _, _, _, _⟩) (v := ?_) rfl (by kernel_rfl) (by kernel_rfl) (by kernel_rfl) (fun _ _ _ h => h) (Or.inl ⟨by rfl, ?_⟩) (by assumption) ?_
            rotate_left
            · intro wS hSw; (try dsimp only at hSw); go_simp; try with_reducible rfl
            try simp only [Act.put, List.setIfInBounds_toArray, List.set_cons_zero, List.set_cons_succ]
            refine wpAnyH_take (i := 6) (oi := ⟨some 66, _, _, _, _, _⟩) (v := ?_) rfl (by kernel_rfl) (by kernel_rfl) (by kernel_rfl) (fun _ _ _ h => h) (Or.inl ⟨by rfl, ?_⟩) (by assumption) ?_
            rotate_left
            · intro wS hSw; (try dsimp only at hSw); go_simp; try with_reducible rfl
            try simp only [Act.put, List.setIfInBounds_toArray, List.set_cons_zero, List.set_cons_succ]
            refine wpAnyH_take (i := 7) (oi := ⟨some 67, _, _, _, _, _⟩) (v := ?_) rfl (by kernel_rfl) (by kernel_rfl) (by kernel_rfl) (fun _ _ _ h => h) (Or.inl ⟨by rfl, ?_⟩) (by assumption) ?_
            rotate_left
            · intro wS hSw; (try dsimp only at hSw); go_simp; try with_reducible rfl
            try simp only [Act.put, List.setIfInBounds_toArray, List.set_cons_zero, List.set_cons_succ]
            refine wpAnyH_take (i := 8) (oi := ⟨some 68, _, _, _, _, _⟩) (v := ?_) rfl (by kernel_rfl) (by kernel_rfl) (by kernel_rfl) (fun _ _ _ h => h) (Or.inl ⟨by rfl, ?_⟩) (by assumption) ?_
            rotate_left
            · intro wS hSw; (try dsimp only at hSw); go_simp; try with_reducible rfl
            try simp only [Act.put, List.setIfInBounds_toArray, List.set_cons_zero, List.set_cons_succ]
            refine wpAnyH_take (i := 9) (oi := ⟨some 69, _, _, _, _, _⟩) (v := ?_) rfl (by kernel_rfl) (by kernel_rfl) (by kernel_rfl) (fun _ _ _ h => h) (Or.inl ⟨by rfl, ?_⟩) (by assumption) ?_
            rotate_left
            · intro wS hSw; (try dsimp only at hSw); go_simp; try with_reducible rfl
            try simp only [Act.put, List.setIfInBounds_toArray, List.set_cons_zero, List.set_cons_succ]
            refine wpAnyH_take (i := 10) (oi := ⟨some 70, _, _, _, _, _⟩) (v := ?_) rfl (by kernel_rfl) (by kernel_rfl) (by kernel_rfl) (fun _ _ _ h => h) (Or.inl ⟨by rfl, ?_⟩) (by assumption) ?_
            rotate_left
            · intro wS hSw; (try dsimp only at hSw); go_simp; try with_reducible rfl
            try simp only [Act.put, List.setIfInBounds_toArray, List.set_cons_zero, List.set_cons_succ]
            refine wpAnyH_take (i := 12) (oi := ⟨some 72, _, _, _, _, _⟩) (v := ?_) rfl (by kernel_rfl) (by kernel_rfl) (by kernel_rfl) (fun _ _ _ h => h) (Or.inl ⟨by rfl, ?_⟩) (by assumption) ?_
            rotate_left
            · intro wS hSw; (try dsimp only at hSw); go_simp; try with_reducible rfl
            try simp only [Act.put, List.setIfInBounds_toArray, List.set_cons_zero, List.set_cons_succ]
            refine wpAnyH_ready (rs := [11, 13]) (by kernel_rfl) (by simp) ?_
            refine AllReadyH.cons (o := ⟨some 71, _, _, _, _, _⟩) rfl (fun K hK => ?_) ?_
            · go_simp
              refine hK.out _ _ (by first | exact ⟨j2, jx, jy⟩ | exact ⟨(World.cell?_alloc_lt _ _ _ jg).trans j2, (World.cell?_alloc_lt _ _ _ jb).trans jx, (World.cell?_alloc_lt _ _ _ jb).trans jy⟩ | exact ⟨k2, kx, ky⟩ | exact ⟨z2, zx, zy⟩) (fun hHeld => ?_)
              clear hK K
              try simp only [Act.put, List.setIfInBounds_toArray, List.set_cons_zero, List.set_cons_succ]
              refine wpAnyH_ready (rs := [13]) (by kernel_rfl) (by simp) ?_
              refine AllReadyH.cons (o := ⟨some 73, _, _, _, _, _⟩) rfl (fun K hK => ?_) AllReadyH.nil
              go_simp
              refine hK.out _ _ (by first | exact ⟨j2, jx, jy⟩ | exact ⟨(World.cell?_alloc_lt _ _ _ jg).trans j2, (World.cell?_alloc_lt _ _ _ jb).trans jx, (World.cell?_alloc_lt _ _ _ jb).trans jy⟩ | exact ⟨k2, kx, ky⟩ | exact ⟨z2, zx, zy⟩) (fun hHeld => ?_)
              clear hK K
              try simp only [Act.put, List.setIfInBounds_toArray, List.set_cons_zero, List.set_cons_succ]
              refine wpAnyH_ready (rs := [14]) (by kernel_rfl) (by simp) ?_
              refine AllReadyH.cons (o := ⟨some 74, _, _, _, _, _⟩) rfl (fun K hK => ?_) AllReadyH.nil
              refine step_append_run (.tmp 71) (.tmp 73) 43 _ _ _ HRUN.out rfl rfl (by simp [Act.eval, Act.put]) (by simp [Act.eval, Act.put]) ?_
              refine hK.out _ _ (by first | exact ⟨j2, jx, jy⟩ | exact ⟨(World.cell?_alloc_lt _ _ _ jg).trans j2, (World.cell?_alloc_lt _ _ _ jb).trans jx, (World.cell?_alloc_lt _ _ _ jb).trans jy⟩ | exact ⟨k2, kx, ky⟩ | exact ⟨z2, zx, zy⟩) (fun hHeld => ?_)
              clear hK K
              try simp only [Act.put, List.setIfInBounds_toArray, List.set_cons_zero, List.set_cons_succ]
              refine wpAnyH_take (i := 15) (oi := ⟨some 75, _, _, _, _, _⟩) (v := ?_) rfl (by kernel_rfl) (by kernel_rfl) (by kernel_rfl) (fun _ _ _ h => h) (Or.inl ⟨by rfl, ?_⟩) (by assumption) ?_
              rotate_left
              · intro wS hSw; (try dsimp only at hSw); go_simp; try with_reducible rfl
              try simp only [Act.put, List.setIfInBounds_toArray, List.set_cons_zero, List.set_cons_succ]
              refine wpAnyH_ready (rs := [16]) (by kernel_rfl) (by simp) ?_
              refine AllReadyH.cons (o := ⟨none, _, _, _, _, _⟩) rfl (fun K hK => ?_) AllReadyH.nil
              go_simp
              refine hK.out _ _ (by first | exact ⟨j2, jx, jy⟩ | exact ⟨(World.cell?_alloc_lt _ _ _ jg).trans j2, (World.cell?_alloc_lt _ _ _ jb).trans jx, (World.cell?_alloc_lt _ _ _ jb).trans jy⟩ | exact ⟨k2, kx, ky⟩ | exact ⟨z2, zx, zy⟩) (fun hHeld => ?_)
              clear hK K
              try simp only [Act.put, List.setIfInBounds_toArray, List.set_cons_zero, List.set_cons_succ]
              refine wpAnyH_done (by kernel_rfl) ?_ _
              rw [HW3.out]
              go_wp2_with fail
              go_roundw
              case rel => exact ⟨k + 1, _, _, _, by omega, by go_num, rfl, HI3.out⟩
              case measure => simp [intOf]; omega
            refine AllReadyH.cons (o := ⟨some 73, _, _, _, _, _⟩) rfl (fun K hK => ?_) ?_
            · go_simp
              refine hK.out _ _ (by first | exact ⟨j2, jx, jy⟩ | exact ⟨(World.cell?_alloc_lt _ _ _ jg).trans j2, (World.cell?_alloc_lt _ _ _ jb).trans jx, (World.cell?_alloc_lt _ _ _ jb).trans jy⟩ | exact ⟨k2, kx, ky⟩ | exact ⟨z2, zx, zy⟩) (fun hHeld => ?_)
              clear hK K
              try simp only [Act.put, List.setIfInBounds_toArray, List.set_cons_zero, List.set_cons_succ]
              refine wpAnyH_ready (rs := [11]) (by kernel_rfl) (by simp) ?_
              refine AllReadyH.cons (o := ⟨some 71, _, _, _, _, _⟩) rfl (fun K hK => ?_) AllReadyH.nil
              go_simp
              refine hK.out _ _ (by first | exact ⟨j2, jx, jy⟩ | exact ⟨(World.cell?_alloc_lt _ _ _ jg).trans j2, (World.cell?_alloc_lt _ _ _ jb).trans jx, (World.cell?_alloc_lt _ _ _ jb).trans jy⟩ | exact ⟨k2, kx, ky⟩ | exact ⟨z2, zx, zy⟩) (fun hHeld => ?_)
              clear hK K
              try simp only [Act.put, List.setIfInBounds_toArray, List.set_cons_zero, List.set_cons_succ]
              refine wpAnyH_ready (rs := [14]) (by kernel_rfl) (by simp) ?_
              refine AllReadyH.cons (o := ⟨some 74, _, _, _, _, _⟩) rfl (fun K hK => ?_) AllReadyH.nil
              refine step_append_run (.tmp 71) (.tmp 73) 43 _ _ _ HRUN.out rfl rfl (by simp [Act.eval, Act.put]) (by simp [Act.eval, Act.put]) ?_
              refine hK.out _ _ (by first | exact ⟨j2, jx, jy⟩ | exact ⟨(World.cell?_alloc_lt _ _ _ jg).trans j2, (World.cell?_alloc_lt _ _ _ jb).trans jx, (World.cell?_alloc_lt _ _ _ jb).trans jy⟩ | exact ⟨k2, kx, ky⟩ | exact ⟨z2, zx, zy⟩) (fun hHeld => ?_)
              clear hK K
              try simp only [Act.put, List.setIfInBounds_toArray, List.set_cons_zero, List.set_cons_succ]
              refine wpAnyH_take (i := 15) (oi := ⟨some 75, _, _, _, _, _⟩) (v := ?_) rfl (by kernel_rfl) (by kernel_rfl) (by kernel_rfl) (fun _ _ _ h => h) (Or.inl ⟨by rfl, ?_⟩) (by assumption) ?_
              rotate_left
              · intro wS hSw; (try dsimp only at hSw); go_simp; try with_reducible rfl
              try simp only [Act.put, List.setIfInBounds_toArray, List.set_cons_zero, List.set_cons_succ]
              refine wpAnyH_ready (rs := [16]) (by kernel_rfl) (by simp) ?_
              refine AllReadyH.cons (o := ⟨none, _, _, _, _, _⟩) rfl (fun K hK => ?_) AllReadyH.nil
              go_simp
              refine hK.out _ _ (by first | exact ⟨j2, jx, jy⟩ | exact ⟨(World.cell?_alloc_lt _ _ _ jg).trans j2, (World.cell?_alloc_lt _ _ _ jb).trans jx, (World.cell?_alloc_lt _ _ _ jb).trans jy⟩ | exact ⟨k2, kx, ky⟩ | exact ⟨z2, zx, zy⟩) (fun hHeld => ?_)
              clear hK K
              try simp only [Act.put, List.setIfInBounds_toArray, List.set_cons_zero, List.set_cons_succ]
              refine wpAnyH_done (by kernel_rfl) ?_ _
              rw [HW3.out]
              go_wp2_with fail
              go_roundw
              case rel => exact ⟨k + 1, _, _, _, by omega, by go_num, rfl, HI3.out⟩
              case measure => simp [intOf]; omega
            exact AllReadyH.nil

          · obtain ⟨ga, ca, w3, hrun, hI3⟩ := hIa.stays hx e hlen
            have hne3 : ((bk x (m + 1) : Int) == (m : Int)) = false := by rw [beq_eq_false_iff_ne]; omega
            have hne4 : decide (bk x (m + 1) = m) = false := decide_eq_false e
            obtain ⟨bq, hbq⟩ : ∃ b, bk x (m + 1) = b := ⟨_, rfl⟩
            rw [hbq] at HOF hne3 hne4
            simp only at hrun
            have HRUN := Lib.hid hrun
            have HI3 := Lib.hid hI3
            clear hI hIa hrd hx hx2 hWa hbx hrun hI3 e HS0 hbq
            go_wp2_with fail
            rw [HWA.out]
            refine HOF.out.mono ?_
            rintro e w' ⟨rfl, rfl⟩
            go_wp2_with (first
              | (at_builtin; refine wpList_append_run (o := ⟨some 79, _, _, _, _, _⟩) (.tmp 76) (.tmp 78) 43 _ _ _ HRUN.out rfl rfl (by simp [Act.eval, Act.put]) (by simp [Act.eval, Act.put]) ?_)
              | fail)
            go_roundw
            case rel => exact ⟨k + 1, _, _, _, by omega, by go_num, rfl, HI3.out⟩
            case measure => simp [intOf]; omega
        · obtain rfl : k = lst.length := by omega
          obtain ⟨z2, z3, z4, z5, z6⟩ := hI.end_ hf1 hne' HG.out
          rw [e1] at z2
          have HZ5 := Lib.hid z5
          have HZ6 := Lib.hid z6
          clear hI z5 z6 HS0
          go_wp2_with fail
          go_ret
          exact ⟨rfl, ⟨_, _, HZ5.out⟩, HZ6.out⟩
end Go.Proofs.Ytjipncpplpfobaa.Lb
