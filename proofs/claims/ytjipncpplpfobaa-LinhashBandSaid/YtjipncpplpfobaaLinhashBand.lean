/- The law LinhashBand returns true for every input: buckets stay in the band, and all items stand where they should. -/
import Derived.Test.YtjipncpplpfobaaBandStep
import Derived.Test.YtjipncpplpfobaaLinhashKnown
namespace Go.Proofs.Ytjipncpplpfobaa.LinhashBand
open Go.RowKit K Hs Lb
open Go.ChangeShapes Go.WideShapes Go.ChangeAt
set_option linter.unusedVariables false
set_option linter.unusedSimpArgs false

def StepsR (w : World) (B : Nat) (A : Option Addr) (n : Nat) : Prop := ∀ i, i < n → ∃ (b o : Nat) (out : Bool) (wh h : Int), A = some ⟨b, o, none⟩ ∧ b < B ∧ w.cell? ⟨b, o + i * 3, none⟩ = some (.bool out) ∧ w.cell? ⟨b, o + i * 3 + 1, none⟩ = some (.int .i64 wh) ∧ w.cell? ⟨b, o + i * 3 + 2, none⟩ = some (.int .u32 h) ∧ (Lit.int .i64 wh).wf = true ∧ 0 ≤ h ∧ h ≤ 4294967295
/-- What a round says. -/
def RI (w : World) (g least i : Nat) (A8 : Option Addr) (n8 c8 : Nat) (wr : World) : Prop :=
  ∃ L all, BI w g least L all A8 n8 c8 wr ∧ Inv L all ∧ Rising all i ∧ Band least n8 L.length ∧ n8 ≤ i ∧ L.length ≤ 20 + 2 * i
theorem band_start {q : Nat} : Band q 0 (List.replicate q ([] : List It)).length := by
  unfold Band; simp
set_option maxRecDepth 100000 in
set_option maxHeartbeats 32000000 in
theorem walk (A : Option Addr) (c nx : Nat) (least : Int) (w : World) (hx : StepsR w w.heap.size A nx) (hlc : nx ≤ maxLen) (hwf : (Lit.int .i64 least).wf = true) :
    Calls Try.prog 6 #[.int .i64 least, .slice A nx c] w fun e w' => e = .returned (.bool true) ∧ Below w.heap.size w w' := by
  obtain ⟨q, hq, hq1, hq2⟩ : ∃ q : Nat, 1 + pickN least 20 = (q : Int) ∧ 1 ≤ q ∧ q ≤ 20 := by
    have := pickN_range (x := least) (n := 20) (by omega)
    exact ⟨(1 + pickN least 20).toNat, by omega, by omega, by omega⟩
  have hpr := pickN_range (x := least) (n := 20) (by omega)
  have HP := Lib.hid (fun w => pick_any least 20 hwf (by decide) w)
  obtain ⟨pk, hpk⟩ : ∃ p, pickN least 20 = p := ⟨_, rfl⟩
  rw [hpk] at hq HP hpr
  have HNew := Lib.hid (fun w => new_yes q hq1 (by omega) w)
  have HX := Lib.hid hx
  have hlc2 : nx ≤ 9223372036854775807 := by unfold maxLen at hlc; exact hlc
  clear hx hwf hpk hlc
  go_enter Try.func6, Try.ntmps6
  go_wp2_with fail
  refine (LinhashKnown.walk w).mono ?_
  rintro e w0 ⟨rfl, hb⟩
  have HB0 := Lib.hid hb
  clear hb
  go_wp2_with (first
    | (go_at_call 24; refine (HP.out _).mono ?_; rintro e w' ⟨rfl, rfl⟩)
    | fail)
  refine (HNew.out _).mono ?_
  rintro e w1 ⟨g, rfl, ⟨gr, cap, hL⟩, hb1⟩
  have HS := Lib.hid (show RI w0 g q 0 none 0 0 w1 from ⟨_, _, BI.start hL hb1, Inv.start hq1 (by omega), ⟨List.Pairwise.nil, fun x hx => by cases hx⟩, band_start, Nat.le_refl _, by simp; omega⟩)
  have HB1 := Lib.hid (HB0.out.trans (hb1.mono HB0.out.size))
  clear hL hb1 hpr
  by_cases h200 : 200 < nx
  · go_wp2_with fail
    go_ret
    exact ⟨ret1_b (by simp), HB1.out⟩
  · have hnx : nx ≤ 200 := by omega
    clear h200 hlc2
    go_wp2_with fail
    go_loopw [8, 9] (fun s i wr => ∃ (k n8 c8 : Nat) (A8 : Option Addr), k ≤ nx ∧ i = .int .i64 (k : Int) ∧ s = .slice A8 n8 c8 ∧ RI w0 g q k A8 n8 c8 wr) (fun _ i _ => nx - (intOf i).toNat)
    case atStart => exact ⟨0, 0, 0, none, Nat.zero_le _, rfl, rfl, HS.out⟩
    case round =>
      obtain ⟨k, n8, c8, A8, hk, rfl, rfl, L, all, hBI, hInv, hRis, hBand, hn8, hLl⟩ := hrel
      clear HS
      by_cases hlt : k < nx
      · obtain ⟨b, o, out, wh, h, rfl, hbw, c0, c1, c2, hwf2, hh0, hh1⟩ := HX.out k hlt
        have hbl : b < w0.heap.size := Nat.lt_of_lt_of_le hbw HB0.out.size
        have hbb := hBI.below
        have e0 := (hbb.cell (p := ⟨b, o + k * 3, none⟩) hbl).trans ((HB0.out.cell (p := ⟨b, o + k * 3, none⟩) hbw).trans c0)
        have e1 := (hbb.cell (p := ⟨b, o + k * 3 + 1, none⟩) hbl).trans ((HB0.out.cell (p := ⟨b, o + k * 3 + 1, none⟩) hbw).trans c1)
        have e2 := (hbb.cell (p := ⟨b, o + k * 3 + 2, none⟩) hbl).trans ((HB0.out.cell (p := ⟨b, o + k * 3 + 2, none⟩) hbw).trans c2)
        have HBI := Lib.hid hBI
        have HInv := Lib.hid hInv
        have HRis := Lib.hid hRis
        have HBand := Lib.hid hBand
        have HOK := Lib.hid (show Ok (n8 : Int) L from by have h := hInv.ok (by have := hBI.len; omega); rwa [← hBI.len] at h)
        clear c0 c1 c2 hbb hBI hInv hRis hBand
        rcases Nat.eq_zero_or_pos n8 with hz | hz
        · have hzd : decide (0 < n8) = false := decide_eq_false (by omega)
          clear hz
          rcases out with _ | _
          · have HAD := Lib.hid (st_add HBI.out.st HOK.out h (k : Int) ⟨hh0, hh1⟩ (WalkArith.wf_i64 (by omega)))
            have HInv2 := Lib.hid (HInv.out.add (h, (k : Int)) ⟨hh0, hh1⟩)
            have HRis2 := Lib.hid (HRis.out.push h)
            have HNr2 := Lib.hid (show Near 0 q (n8 + 1) (addL L (bk h L.length) (h, (k : Int))).length from by rw [addL_len]; exact HBand.out.near0.1)
            have hl2 : (addL L (bk h L.length) (h, (k : Int))).length ≤ 20 + 2 * k := by rw [addL_len]; exact hLl
            obtain ⟨L2, hL2⟩ : ∃ L2, addL L (bk h L.length) (h, (k : Int)) = L2 := ⟨_, rfl⟩
            obtain ⟨bq, hbq⟩ : ∃ b, bk h L.length = b := ⟨_, rfl⟩
            rw [hL2] at HInv2 HNr2 HAD hl2
            rw [hbq] at HAD
            clear hL2 hbq
            go_wp2_with fail
            refine HAD.out.mono ?_
            rintro e w3 ⟨rfl, hS3⟩
            obtain ⟨ga, ca, w4, hrun, hB4⟩ := HBI.out.push (x := (h, (k : Int))) hS3 (by omega)
            have HRUN := Lib.hid hrun
            have HBI2 := Lib.hid hB4
            have e0' := (hS3.cell (p := ⟨b, o + k * 3, none⟩) (.inl hbl)).trans e0
            have e1' := (hS3.cell (p := ⟨b, o + k * 3 + 1, none⟩) (.inl hbl)).trans e1
            have e2' := (hS3.cell (p := ⟨b, o + k * 3 + 2, none⟩) (.inl hbl)).trans e2
            clear hS3 hrun hB4 e0 e1 e2
            go_wp2_with (first
              | (at_builtin; refine wpList_append_run (o := ⟨some 107, _, _, _, _, _⟩) (.tmp 98) (.tmp 106) 43 _ _ _ HRUN.out rfl rfl (by simp [Act.eval, Act.put]) (by simp [Act.eval, Act.put]) ?_)
              | fail)
            obtain ⟨n2, hn2⟩ : ∃ n2 : Nat, (n8 + 1) = n2 := ⟨_, rfl⟩
            rw [hn2] at HBI2 HNr2 ⊢
            have hn2k : n2 ≤ k + 1 := by omega
            clear hn2
            have HOK3 := Lib.hid (HInv2.out.ok (by have := HBI2.out.len; omega))
            refine (settled_any HBI2.out.len.symm HBI2.out.st HInv2.out HNr2.out (by omega) hq1 (by omega)).mono ?_
            rintro e w5 ⟨rfl, L3, hS3, hI3, hB3, hl3⟩
            have HBI3 := Lib.hid (HBI2.out.same hS3)
            have HI3 := Lib.hid hI3
            have HB3 := Lib.hid hB3
            have HOKX := Lib.hid (show Ok (n2 : Int) L3 from by have h := hI3.ok (by have := HBI2.out.len; omega); rwa [← HBI2.out.len] at h)
            obtain ⟨m3, hm3⟩ : ∃ m, L3.length = m := ⟨_, rfl⟩
            have HM3 := Lib.hid hm3
            rw [hm3] at hB3 hl3
            have hb31 := hB3.1
            have HW := Lib.hid (show ∀ wx, St (X8 w0 (some ⟨ga, 0, none⟩) n2 ca) w5 g q (n2 : Int) L3 wx → Calls Try.prog 18 #[.pointer (some ⟨g, 0, none⟩)] wx fun e w' => e = .returned (.int .i64 0) ∧ ∃ d, w' = wx.drewN d from fun wx h => by
              have := st_wants h HOKX.out
              rwa [(wants_zero (by omega) (by omega)).2 HB3.out] at this)
            have d1 : decide (2 * (m3 : Int) < ((n2 : Nat) : Int)) = false := decide_eq_false (by have := hB3.2.1; omega)
            have d2 : decide (m3 < q) = false := decide_eq_false (by omega)
            have hm3b : m3 ≤ 60000 := by omega
            clear hS3 hI3 hm3
            go_wp2_with fail
            refine (HW.out _ HBI3.out.st).mono ?_
            rintro e w6 ⟨rfl, d6, rfl⟩
            have HBI4 := Lib.hid (HBI3.out.drewN d6)
            have HLN := Lib.hid (st_len HBI4.out.st)
            have HCN := Lib.hid (show Calls Try.prog 17 #[.pointer (some ⟨g, 0, none⟩)] (w5.drewN d6) fun e w' => e = .returned (.int .i64 (m3 : Int)) ∧ w5.drewN d6 = w' from by have := st_count HBI4.out.st; rwa [HM3.out] at this)
            by_cases hqm : q < m3
            · have d3 : decide (q < m3) = true := decide_eq_true hqm
              have d4 : decide (2 * ((n2 : Nat) : Int) < (m3 : Int)) = false := decide_eq_false (by have := hB3.2.2 hqm; omega)
              clear hB3
              go_wp2_with (first
                | (go_at_call 16; refine HLN.out.mono ?_; rintro e w' ⟨rfl, rfl⟩)
                | (go_at_call 17; refine HCN.out.mono ?_; rintro e w' ⟨rfl, rfl⟩)
                | fail)
              exact ⟨⟨k + 1, n2, ca, (some ⟨ga, 0, none⟩), by omega, by go_num, rfl, L3, (all ++ [(h, (k : Int))]), HBI4.out, HI3.out, HRis2.out, HB3.out, by omega, by rw [HM3.out]; omega⟩, by simp [intOf]; omega⟩
            · have d3 : decide (q < m3) = false := decide_eq_false hqm
              clear hB3
              go_wp2_with (first
                | (go_at_call 16; refine HLN.out.mono ?_; rintro e w' ⟨rfl, rfl⟩)
                | (go_at_call 17; refine HCN.out.mono ?_; rintro e w' ⟨rfl, rfl⟩)
                | fail)
              exact ⟨⟨k + 1, n2, ca, (some ⟨ga, 0, none⟩), by omega, by go_num, rfl, L3, (all ++ [(h, (k : Int))]), HBI4.out, HI3.out, HRis2.out, HB3.out, by omega, by rw [HM3.out]; omega⟩, by simp [intOf]; omega⟩
          · have HAD := Lib.hid (st_add HBI.out.st HOK.out h (k : Int) ⟨hh0, hh1⟩ (WalkArith.wf_i64 (by omega)))
            have HInv2 := Lib.hid (HInv.out.add (h, (k : Int)) ⟨hh0, hh1⟩)
            have HRis2 := Lib.hid (HRis.out.push h)
            have HNr2 := Lib.hid (show Near 0 q (n8 + 1) (addL L (bk h L.length) (h, (k : Int))).length from by rw [addL_len]; exact HBand.out.near0.1)
            have hl2 : (addL L (bk h L.length) (h, (k : Int))).length ≤ 20 + 2 * k := by rw [addL_len]; exact hLl
            obtain ⟨L2, hL2⟩ : ∃ L2, addL L (bk h L.length) (h, (k : Int)) = L2 := ⟨_, rfl⟩
            obtain ⟨bq, hbq⟩ : ∃ b, bk h L.length = b := ⟨_, rfl⟩
            rw [hL2] at HInv2 HNr2 HAD hl2
            rw [hbq] at HAD
            clear hL2 hbq
            go_wp2_with fail
            refine HAD.out.mono ?_
            rintro e w3 ⟨rfl, hS3⟩
            obtain ⟨ga, ca, w4, hrun, hB4⟩ := HBI.out.push (x := (h, (k : Int))) hS3 (by omega)
            have HRUN := Lib.hid hrun
            have HBI2 := Lib.hid hB4
            have e0' := (hS3.cell (p := ⟨b, o + k * 3, none⟩) (.inl hbl)).trans e0
            have e1' := (hS3.cell (p := ⟨b, o + k * 3 + 1, none⟩) (.inl hbl)).trans e1
            have e2' := (hS3.cell (p := ⟨b, o + k * 3 + 2, none⟩) (.inl hbl)).trans e2
            clear hS3 hrun hB4 e0 e1 e2
            go_wp2_with (first
              | (at_builtin; refine wpList_append_run (o := ⟨some 107, _, _, _, _, _⟩) (.tmp 98) (.tmp 106) 43 _ _ _ HRUN.out rfl rfl (by simp [Act.eval, Act.put]) (by simp [Act.eval, Act.put]) ?_)
              | fail)
            obtain ⟨n2, hn2⟩ : ∃ n2 : Nat, (n8 + 1) = n2 := ⟨_, rfl⟩
            rw [hn2] at HBI2 HNr2 ⊢
            have hn2k : n2 ≤ k + 1 := by omega
            clear hn2
            have HOK3 := Lib.hid (HInv2.out.ok (by have := HBI2.out.len; omega))
            refine (settled_any HBI2.out.len.symm HBI2.out.st HInv2.out HNr2.out (by omega) hq1 (by omega)).mono ?_
            rintro e w5 ⟨rfl, L3, hS3, hI3, hB3, hl3⟩
            have HBI3 := Lib.hid (HBI2.out.same hS3)
            have HI3 := Lib.hid hI3
            have HB3 := Lib.hid hB3
            have HOKX := Lib.hid (show Ok (n2 : Int) L3 from by have h := hI3.ok (by have := HBI2.out.len; omega); rwa [← HBI2.out.len] at h)
            obtain ⟨m3, hm3⟩ : ∃ m, L3.length = m := ⟨_, rfl⟩
            have HM3 := Lib.hid hm3
            rw [hm3] at hB3 hl3
            have hb31 := hB3.1
            have HW := Lib.hid (show ∀ wx, St (X8 w0 (some ⟨ga, 0, none⟩) n2 ca) w5 g q (n2 : Int) L3 wx → Calls Try.prog 18 #[.pointer (some ⟨g, 0, none⟩)] wx fun e w' => e = .returned (.int .i64 0) ∧ ∃ d, w' = wx.drewN d from fun wx h => by
              have := st_wants h HOKX.out
              rwa [(wants_zero (by omega) (by omega)).2 HB3.out] at this)
            have d1 : decide (2 * (m3 : Int) < ((n2 : Nat) : Int)) = false := decide_eq_false (by have := hB3.2.1; omega)
            have d2 : decide (m3 < q) = false := decide_eq_false (by omega)
            have hm3b : m3 ≤ 60000 := by omega
            clear hS3 hI3 hm3
            go_wp2_with fail
            refine (HW.out _ HBI3.out.st).mono ?_
            rintro e w6 ⟨rfl, d6, rfl⟩
            have HBI4 := Lib.hid (HBI3.out.drewN d6)
            have HLN := Lib.hid (st_len HBI4.out.st)
            have HCN := Lib.hid (show Calls Try.prog 17 #[.pointer (some ⟨g, 0, none⟩)] (w5.drewN d6) fun e w' => e = .returned (.int .i64 (m3 : Int)) ∧ w5.drewN d6 = w' from by have := st_count HBI4.out.st; rwa [HM3.out] at this)
            by_cases hqm : q < m3
            · have d3 : decide (q < m3) = true := decide_eq_true hqm
              have d4 : decide (2 * ((n2 : Nat) : Int) < (m3 : Int)) = false := decide_eq_false (by have := hB3.2.2 hqm; omega)
              clear hB3
              go_wp2_with (first
                | (go_at_call 16; refine HLN.out.mono ?_; rintro e w' ⟨rfl, rfl⟩)
                | (go_at_call 17; refine HCN.out.mono ?_; rintro e w' ⟨rfl, rfl⟩)
                | fail)
              exact ⟨⟨k + 1, n2, ca, (some ⟨ga, 0, none⟩), by omega, by go_num, rfl, L3, (all ++ [(h, (k : Int))]), HBI4.out, HI3.out, HRis2.out, HB3.out, by omega, by rw [HM3.out]; omega⟩, by simp [intOf]; omega⟩
            · have d3 : decide (q < m3) = false := decide_eq_false hqm
              clear hB3
              go_wp2_with (first
                | (go_at_call 16; refine HLN.out.mono ?_; rintro e w' ⟨rfl, rfl⟩)
                | (go_at_call 17; refine HCN.out.mono ?_; rintro e w' ⟨rfl, rfl⟩)
                | fail)
              exact ⟨⟨k + 1, n2, ca, (some ⟨ga, 0, none⟩), by omega, by go_num, rfl, L3, (all ++ [(h, (k : Int))]), HBI4.out, HI3.out, HRis2.out, HB3.out, by omega, by rw [HM3.out]; omega⟩, by simp [intOf]; omega⟩
        · have hzd : decide (0 < n8) = true := decide_eq_true hz
          rcases out with _ | _
          · have HAD := Lib.hid (st_add HBI.out.st HOK.out h (k : Int) ⟨hh0, hh1⟩ (WalkArith.wf_i64 (by omega)))
            have HInv2 := Lib.hid (HInv.out.add (h, (k : Int)) ⟨hh0, hh1⟩)
            have HRis2 := Lib.hid (HRis.out.push h)
            have HNr2 := Lib.hid (show Near 0 q (n8 + 1) (addL L (bk h L.length) (h, (k : Int))).length from by rw [addL_len]; exact HBand.out.near0.1)
            have hl2 : (addL L (bk h L.length) (h, (k : Int))).length ≤ 20 + 2 * k := by rw [addL_len]; exact hLl
            obtain ⟨L2, hL2⟩ : ∃ L2, addL L (bk h L.length) (h, (k : Int)) = L2 := ⟨_, rfl⟩
            obtain ⟨bq, hbq⟩ : ∃ b, bk h L.length = b := ⟨_, rfl⟩
            rw [hL2] at HInv2 HNr2 HAD hl2
            rw [hbq] at HAD
            clear hL2 hbq
            go_wp2_with fail
            refine HAD.out.mono ?_
            rintro e w3 ⟨rfl, hS3⟩
            obtain ⟨ga, ca, w4, hrun, hB4⟩ := HBI.out.push (x := (h, (k : Int))) hS3 (by omega)
            have HRUN := Lib.hid hrun
            have HBI2 := Lib.hid hB4
            have e0' := (hS3.cell (p := ⟨b, o + k * 3, none⟩) (.inl hbl)).trans e0
            have e1' := (hS3.cell (p := ⟨b, o + k * 3 + 1, none⟩) (.inl hbl)).trans e1
            have e2' := (hS3.cell (p := ⟨b, o + k * 3 + 2, none⟩) (.inl hbl)).trans e2
            clear hS3 hrun hB4 e0 e1 e2
            go_wp2_with (first
              | (at_builtin; refine wpList_append_run (o := ⟨some 107, _, _, _, _, _⟩) (.tmp 98) (.tmp 106) 43 _ _ _ HRUN.out rfl rfl (by simp [Act.eval, Act.put]) (by simp [Act.eval, Act.put]) ?_)
              | fail)
            obtain ⟨n2, hn2⟩ : ∃ n2 : Nat, (n8 + 1) = n2 := ⟨_, rfl⟩
            rw [hn2] at HBI2 HNr2 ⊢
            have hn2k : n2 ≤ k + 1 := by omega
            clear hn2
            have HOK3 := Lib.hid (HInv2.out.ok (by have := HBI2.out.len; omega))
            refine (settled_any HBI2.out.len.symm HBI2.out.st HInv2.out HNr2.out (by omega) hq1 (by omega)).mono ?_
            rintro e w5 ⟨rfl, L3, hS3, hI3, hB3, hl3⟩
            have HBI3 := Lib.hid (HBI2.out.same hS3)
            have HI3 := Lib.hid hI3
            have HB3 := Lib.hid hB3
            have HOKX := Lib.hid (show Ok (n2 : Int) L3 from by have h := hI3.ok (by have := HBI2.out.len; omega); rwa [← HBI2.out.len] at h)
            obtain ⟨m3, hm3⟩ : ∃ m, L3.length = m := ⟨_, rfl⟩
            have HM3 := Lib.hid hm3
            rw [hm3] at hB3 hl3
            have hb31 := hB3.1
            have HW := Lib.hid (show ∀ wx, St (X8 w0 (some ⟨ga, 0, none⟩) n2 ca) w5 g q (n2 : Int) L3 wx → Calls Try.prog 18 #[.pointer (some ⟨g, 0, none⟩)] wx fun e w' => e = .returned (.int .i64 0) ∧ ∃ d, w' = wx.drewN d from fun wx h => by
              have := st_wants h HOKX.out
              rwa [(wants_zero (by omega) (by omega)).2 HB3.out] at this)
            have d1 : decide (2 * (m3 : Int) < ((n2 : Nat) : Int)) = false := decide_eq_false (by have := hB3.2.1; omega)
            have d2 : decide (m3 < q) = false := decide_eq_false (by omega)
            have hm3b : m3 ≤ 60000 := by omega
            clear hS3 hI3 hm3
            go_wp2_with fail
            refine (HW.out _ HBI3.out.st).mono ?_
            rintro e w6 ⟨rfl, d6, rfl⟩
            have HBI4 := Lib.hid (HBI3.out.drewN d6)
            have HLN := Lib.hid (st_len HBI4.out.st)
            have HCN := Lib.hid (show Calls Try.prog 17 #[.pointer (some ⟨g, 0, none⟩)] (w5.drewN d6) fun e w' => e = .returned (.int .i64 (m3 : Int)) ∧ w5.drewN d6 = w' from by have := st_count HBI4.out.st; rwa [HM3.out] at this)
            by_cases hqm : q < m3
            · have d3 : decide (q < m3) = true := decide_eq_true hqm
              have d4 : decide (2 * ((n2 : Nat) : Int) < (m3 : Int)) = false := decide_eq_false (by have := hB3.2.2 hqm; omega)
              clear hB3
              go_wp2_with (first
                | (go_at_call 16; refine HLN.out.mono ?_; rintro e w' ⟨rfl, rfl⟩)
                | (go_at_call 17; refine HCN.out.mono ?_; rintro e w' ⟨rfl, rfl⟩)
                | fail)
              exact ⟨⟨k + 1, n2, ca, (some ⟨ga, 0, none⟩), by omega, by go_num, rfl, L3, (all ++ [(h, (k : Int))]), HBI4.out, HI3.out, HRis2.out, HB3.out, by omega, by rw [HM3.out]; omega⟩, by simp [intOf]; omega⟩
            · have d3 : decide (q < m3) = false := decide_eq_false hqm
              clear hB3
              go_wp2_with (first
                | (go_at_call 16; refine HLN.out.mono ?_; rintro e w' ⟨rfl, rfl⟩)
                | (go_at_call 17; refine HCN.out.mono ?_; rintro e w' ⟨rfl, rfl⟩)
                | fail)
              exact ⟨⟨k + 1, n2, ca, (some ⟨ga, 0, none⟩), by omega, by go_num, rfl, L3, (all ++ [(h, (k : Int))]), HBI4.out, HI3.out, HRis2.out, HB3.out, by omega, by rw [HM3.out]; omega⟩, by simp [intOf]; omega⟩
          · obtain ⟨kk, hkk, hkn⟩ : ∃ kk : Nat, pickN wh (n8 : Int) = (kk : Int) ∧ kk < n8 := by
              have := pickN_range (x := wh) (n := (n8 : Int)) (by omega)
              exact ⟨(pickN wh (n8 : Int)).toNat, by omega, by omega⟩
            have HPK := Lib.hid (fun w => pick_any wh (n8 : Int) hwf2 (WalkArith.wf_i64 (by omega)) w)
            rw [hkk] at HPK
            obtain ⟨⟨xh, xy⟩, hxx⟩ : ∃ x, all[kk]? = some x := ⟨_, List.getElem?_eq_getElem (by have := HBI.out.len; omega)⟩
            obtain ⟨gi, rfl, hgi, z0, z1⟩ := (RdI.of_own HBI.out.row) kk _ hxx
            simp only at z0 z1
            have hxr : 0 ≤ xh ∧ xh ≤ 4294967295 := by
              have h1 : ((xh, xy) : It) ∈ fil xh all := mem_fil.2 ⟨List.mem_of_getElem? hxx, rfl⟩
              rw [← HInv.out.same xh] at h1
              obtain ⟨lb, hlb, hgb⟩ := HInv.out.row xh
              rw [hgb] at h1
              exact (HInv.out.inb _ lb hlb _ (mem_fil.1 h1).1).1
            obtain ⟨hhas, hinv⟩ := HInv.out.rem HRis.out hxx
            have HRM := Lib.hid (st_rem (HBI.out.drewN 1).st HOK.out xh xy hxr)
            rw [hhas] at HRM
            simp only [if_true] at HRM
            have HInv2 := Lib.hid hinv
            have HRis2 := Lib.hid ((HRis.out.take kk).more)
            have HNr2 := Lib.hid (show Near 0 q (n8 - 1) (remL L (bk xh L.length) (xh, xy)).length from by rw [remL_len]; exact HBand.out.near0.2 (by omega))
            have hl2 : (remL L (bk xh L.length) (xh, xy)).length ≤ 20 + 2 * k := by rw [remL_len]; exact hLl
            obtain ⟨L2, hL2⟩ : ∃ L2, remL L (bk xh L.length) (xh, xy) = L2 := ⟨_, rfl⟩
            rw [hL2] at HInv2 HNr2 HRM hl2
            have hc8 : n8 ≤ c8 ∧ c8 ≤ maxLen := by
              obtain ⟨_, _, e, e1, e2⟩ := ownsRow_form HBI.out.row
              injection e with _ _ e
              subst e
              exact ⟨e1, e2⟩
            have i1 : (kk : Int) < (n8 : Int) := by omega
            have i0 : (0 : Int) ≤ (kk : Int) := by omega
            have i2 : (kk : Int) + 1 ≤ (n8 : Int) := by omega
            have i3 : ((kk : Int) + 1).toNat = kk + 1 := by omega
            have i4 : (0 : Int) ≤ (kk : Int) + 1 := by omega
            have i5 : kk ≤ c8 := by omega
            have i6 : kk + 1 ≤ n8 := by omega
            have i7 : n8 ≤ c8 := hc8.1
            have i8 : IntKind.i64.wrap ((kk : Int) + 1) = (kk : Int) + 1 := IntWalk.i64_in _ (by omega)
            clear hL2 hxx hhas hinv hkk hc8 hxr
            go_wp2_with (first
              | (go_at_call 24; refine (HPK.out _).mono ?_; rintro e w' ⟨rfl, rfl⟩)
              | fail)
            go_region_held3 (fun wx => wx.cell? ⟨gi, kk * 2, none⟩ = some (.int .u32 xh) ∧ wx.cell? ⟨gi, kk * 2 + 1, none⟩ = some (.int .i64 xy)) (first
              | exact ⟨z0, z1⟩
              | exact ⟨z2, z3⟩) (first
              | (go_at_call 14
                 refine HRM.out.mono ?_
                 rintro e w3 ⟨rfl, hS3⟩
                 have z2 := (hS3.cell (p := ⟨gi, kk * 2, none⟩) (.inr rfl)).trans z0
                 have z3 := (hS3.cell (p := ⟨gi, kk * 2 + 1, none⟩) (.inr rfl)).trans z1
                 have HS3 := Lib.hid hS3
                 clear hS3)
              | fail)
            obtain ⟨v1, w3a, g2, c2, w4, hrun1, hrun2, hB4⟩ := (HBI.out.drewN 1).pull hkn HS3.out (by omega)
            obtain ⟨A9, hA9⟩ : ∃ A9, (if c8 = kk + 1 then some (⟨gi, 0, none⟩ : Addr) else some ⟨gi, (kk + 1) * 2, none⟩) = some A9 := by
              split <;> exact ⟨_, rfl⟩
            have hA10 : (if c8 = kk + 1 then some (⟨gi, 0, none⟩ : Addr) else (some (⟨gi, 0, none⟩ : Addr)).map (·.add ((kk + 1) * 2))) = some A9 := by
              rw [← hA9]
              split
              · rfl
              · simp [Addr.add]
            rw [hA10] at hrun2
            have HRUN1 := Lib.hid hrun1
            have HRUn2 := Lib.hid hrun2
            have HBI2 := Lib.hid hB4
            clear hrun1 hrun2 hB4 hA10 z0 z1 z2 z3 hgi e0 e1 e2
            go_wp2_with fail
            go_region_law (first
              | (refine step_append_run (o := ⟨some 79, _, _, _, _, _⟩) (.tmp 75) (.tmp 78) 43 _ _ _ HRUN1.out rfl rfl (by simp [Act.eval, Act.put]) (by simp [Act.eval, Act.put]) ?_)
              | (refine step_append_run (o := ⟨some 84, _, _, _, _, _⟩) (.tmp 79) (.tmp 83) 43 _ _ _ HRUn2.out rfl rfl (by simp [Act.eval, Act.put]) (by simp [Act.eval, Act.put]) ?_))
            all_goals
              clear hA9
              go_wp2_with fail
              obtain ⟨n2, hn2⟩ : ∃ n2 : Nat, (n8 - 1) = n2 := ⟨_, rfl⟩
              rw [hn2] at HBI2 HNr2 ⊢
              have hn2k : n2 ≤ k + 1 := by omega
              clear hn2
              have HOK3 := Lib.hid (HInv2.out.ok (by have := HBI2.out.len; omega))
              refine (settled_any HBI2.out.len.symm HBI2.out.st HInv2.out HNr2.out (by omega) hq1 (by omega)).mono ?_
              rintro e w5 ⟨rfl, L3, hS3, hI3, hB3, hl3⟩
              have HBI3 := Lib.hid (HBI2.out.same hS3)
              have HI3 := Lib.hid hI3
              have HB3 := Lib.hid hB3
              have HOKX := Lib.hid (show Ok (n2 : Int) L3 from by have h := hI3.ok (by have := HBI2.out.len; omega); rwa [← HBI2.out.len] at h)
              obtain ⟨m3, hm3⟩ : ∃ m, L3.length = m := ⟨_, rfl⟩
              have HM3 := Lib.hid hm3
              rw [hm3] at hB3 hl3
              have hb31 := hB3.1
              have HW := Lib.hid (show ∀ wx, St (X8 w0 g2 n2 c2) w5 g q (n2 : Int) L3 wx → Calls Try.prog 18 #[.pointer (some ⟨g, 0, none⟩)] wx fun e w' => e = .returned (.int .i64 0) ∧ ∃ d, w' = wx.drewN d from fun wx h => by
                have := st_wants h HOKX.out
                rwa [(wants_zero (by omega) (by omega)).2 HB3.out] at this)
              have d1 : decide (2 * (m3 : Int) < ((n2 : Nat) : Int)) = false := decide_eq_false (by have := hB3.2.1; omega)
              have d2 : decide (m3 < q) = false := decide_eq_false (by omega)
              have hm3b : m3 ≤ 60000 := by omega
              clear hS3 hI3 hm3
              go_wp2_with fail
              refine (HW.out _ HBI3.out.st).mono ?_
              rintro e w6 ⟨rfl, d6, rfl⟩
              have HBI4 := Lib.hid (HBI3.out.drewN d6)
              have HLN := Lib.hid (st_len HBI4.out.st)
              have HCN := Lib.hid (show Calls Try.prog 17 #[.pointer (some ⟨g, 0, none⟩)] (w5.drewN d6) fun e w' => e = .returned (.int .i64 (m3 : Int)) ∧ w5.drewN d6 = w' from by have := st_count HBI4.out.st; rwa [HM3.out] at this)
              by_cases hqm : q < m3
              · have d3 : decide (q < m3) = true := decide_eq_true hqm
                have d4 : decide (2 * ((n2 : Nat) : Int) < (m3 : Int)) = false := decide_eq_false (by have := hB3.2.2 hqm; omega)
                clear hB3
                go_wp2_with (first
                  | (go_at_call 16; refine HLN.out.mono ?_; rintro e w' ⟨rfl, rfl⟩)
                  | (go_at_call 17; refine HCN.out.mono ?_; rintro e w' ⟨rfl, rfl⟩)
                  | fail)
                exact ⟨⟨k + 1, n2, c2, g2, by omega, by go_num, rfl, L3, (all.eraseIdx kk), HBI4.out, HI3.out, HRis2.out, HB3.out, by omega, by rw [HM3.out]; omega⟩, by simp [intOf]; omega⟩
              · have d3 : decide (q < m3) = false := decide_eq_false hqm
                clear hB3
                go_wp2_with (first
                  | (go_at_call 16; refine HLN.out.mono ?_; rintro e w' ⟨rfl, rfl⟩)
                  | (go_at_call 17; refine HCN.out.mono ?_; rintro e w' ⟨rfl, rfl⟩)
                  | fail)
                exact ⟨⟨k + 1, n2, c2, g2, by omega, by go_num, rfl, L3, (all.eraseIdx kk), HBI4.out, HI3.out, HRis2.out, HB3.out, by omega, by rw [HM3.out]; omega⟩, by simp [intOf]; omega⟩
      · obtain rfl : k = nx := by omega
        have HBI := Lib.hid hBI
        have HBE := Lib.hid (show ∀ w', Below wr.heap.size wr w' → Below w.heap.size w w' from fun w' hb => (HB0.out.trans (hBI.below.mono HB0.out.size)).trans (hb.mono (Nat.le_trans HB0.out.size hBI.below.size)))
        have HSt := Lib.hid (stand_any A8 c8 hBI.len.symm hBI.st hInv (by omega) (RdI.of_own hBI.row))
        clear hBI hInv hRis hBand
        go_wp2_with fail
        refine HSt.out.mono ?_
        rintro e w5 ⟨rfl, hb5⟩
        have HB5 := Lib.hid (HBE.out _ hb5)
        clear hb5
        go_wp2_with fail
        go_ret
        exact ⟨ret1_b (by simp), HB5.out⟩

theorem contract {H : Type} {enc : TypeId × Value → H} (W : World) {base : Nat} {r : Reach} {b : Nat} {hd : Bool} {v0 v1 : Value} {d0 d1 : DataW H} {p0 p1 : List MemPlace}
    (o0 : Value.okWide Try.prog W r b 3 v0) (h0 : DataW.Trod enc Try.prog W base (fun _ => true) hd 3 v0 d0 p0) (o1 : Value.okWide Try.prog W r b 56 v1) (h1 : DataW.Trod enc Try.prog W base (fun _ => true) hd 56 v1 d1 p1) {Q R : Prop} (_ : Q) (_ : R) :
    Calls Try.prog 6 #[v0, v1] W fun e w' => e = .returned (.bool true) ∧ Below W.heap.size W w' := by
  obtain ⟨a0, rfl, _, _, w0⟩ := open_int Try.underlying3 o0 h0
  obtain ⟨A, n, c, rfl, l1, l2, hs⟩ := open_trips_arg Try.underlying56 Try.underlying59 (by kernel_rfl) rfl rfl rfl (by kernel_rfl) (by kernel_rfl) (by kernel_rfl) o1 h1
  refine walk A c n a0 W (fun i hi => ?_) (by omega) w0
  obtain ⟨b, off, v0, v1, v2, rfl, hb, c0, c1, c2, ⟨k0, x0, t0⟩, ⟨k1, x1, t1⟩, ⟨k2, x2, t2⟩⟩ := hs i hi
  obtain ⟨bo, e0, _⟩ := DataW.trod_bool Try.underlying4 t0
  obtain ⟨wh, e1, _, f1⟩ := DataW.trod_int Try.underlying3 t1
  obtain ⟨h, e2, _, f2⟩ := DataW.trod_int Try.underlying32 t2
  simp only [List.cons.injEq, and_true] at e0 e1 e2
  subst e0 e1 e2
  have hr : 0 ≤ h ∧ h ≤ 4294967295 := by
    simp [Lit.wf, IntKind.min, IntKind.max, IntKind.bits, IntKind.signed] at f2
    omega
  exact ⟨b, off, bo, wh, h, rfl, hb, c0, c1, c2, f1, hr.1, hr.2⟩


theorem own : ownKnob Try.prog.godebug = none := by kernel_rfl
theorem laidOut : laidOutB Try.prog = true := by kernel_rfl
theorem readable : ∀ t ∈ Try.f6.params.toList, Try.prog.readableRec t = true ∧ t < Try.prog.types.size := by
  rw [show Try.f6.params = #[3, 56] from Try.params6]
  intro t h
  simp only [List.mem_cons, List.not_mem_nil, or_false] at h
  rcases h with rfl | rfl
  · exact ⟨by kernel_rfl, of_decide_eq_true (by kernel_rfl)⟩
  · exact ⟨by kernel_rfl, of_decide_eq_true (by kernel_rfl)⟩
set_option maxRecDepth 100000 in
theorem lifted (os : Os) (started : os.Started) (H : Type) (enc : TypeId × Value → H) :
    ReturnsInHanded {} Try.checked os 6 .any (Rows.linhashBandSpec.pre6 enc Try.prog Try.f6 Rows.linhashBandRow.domain false) (Rows.linhashBandSpec.post enc Try.prog Try.f6 false true false false) := by
  refine K.law_lift (C := Try.checked) (b := 4) own started (by kernel_rfl) Try.func6
    (ChangeSpec.witness6 (enc := enc) (C := Try.checked) false ⟨#[], #[.int .i64 0, .slice none 0 0], []⟩ 8 (by kernel_rfl) (by kernel_rfl) (by kernel_rfl) (by kernel_rfl)) laidOut readable rfl rfl Try.underlying4 ?_ ?_
  · intro ds hds
    rw [show Try.f6.params = #[3, 56] from Try.params6] at hds
    match ds, hds with
    | [d0, d1], _ => rfl
  · intro W base args ds p hval hA hlt hsz
    rw [show Try.checked.prog = Try.prog from rfl] at hval hA hsz
    rw [show Try.f6.params = #[3, 56] from Try.params6] at hA hval hsz
    obtain ⟨v0, vs0, d0, ds0, p0, q0, hargs, rfl, rfl, h0, r0⟩ := trodAll_cons hA
    obtain ⟨v1, vs1, d1, ds1, p1, q1, rfl, rfl, rfl, h1, r1⟩ := trodAll_cons r0
    obtain ⟨rfl, rfl, rfl⟩ := trodAll_nil r1
    obtain rfl : args = #[v0, v1] := by cases args; simp_all
    exact contract W (hval 0 3 v0 rfl rfl) h0 (hval 1 56 v1 rfl rfl) h1 (fun x hx => hlt x hx) hsz

theorem over : Rows.linhashBandRow.holds Try.pinned (OpenSpec.ofChange Rows.linhashBandSpec) :=
  OpenClaim.holds_of_wide 6 Try.f6 rfl rfl rfl rfl rfl rfl rfl ⟨rfl, rfl, rfl, rfl, rfl⟩ rfl rfl rfl rfl rfl (by kernel_rfl) Try.func6 (by kernel_rfl)
    (of_decide_eq_true (by kernel_rfl)) (by unfold Func.isWrapper; rw [if_neg (of_decide_eq_false (by kernel_rfl))]; exact ⟨rfl, rfl⟩)
    (fun os started H enc _ => lifted os started H enc)

/-- THE STATEMENT -/
theorem proved : Rows.LinhashBandSaid := over
#print axioms proved
end Go.Proofs.Ytjipncpplpfobaa.LinhashBand
