/- tenureref16.parts, vars, Vars, anyIn, Bound, by contracts. -/
import Derived.Test.YtlaplakaifmpeaaPatRefW
namespace Go.Proofs.Ytlaplakaifmpeaa.Pt
open Go.RowKit K Go.Shelf
set_option linter.unusedVariables false
set_option linter.unusedSimpArgs false

theorem rparts16_yes (k n : Int) (s : ByteArray) (A : Option Addr) (m c : Nat) (w : World) (h : k = 7 ∨ k = 9) : Calls Try.prog 68 #[.agg #[.int .i64 k, .int .i64 n, .string s, .slice A m c]] w fun e w' => e = .returned (.slice A m c) ∧ Below w.heap.size w w' := by
  rcases h with rfl | rfl
  all_goals
    go_enter Try.func68, Try.ntmps68
    go_wp2_with fail
    go_ret
    exact ⟨rfl, ballocs (Below.refl _ _) _⟩
theorem rparts16_no (k n : Int) (s : ByteArray) (A : Option Addr) (m c : Nat) (w : World) (h : ¬ (k = 7 ∨ k = 9)) : Calls Try.prog 68 #[.agg #[.int .i64 k, .int .i64 n, .string s, .slice A m c]] w fun e w' => e = .returned (.slice none 0 0) ∧ Below w.heap.size w w' := by
  have h7 : (k == 7) = false := by simp; omega
  have h9 : (k == 9) = false := by simp; omega
  go_enter Try.func68, Try.ntmps68
  go_wp2_with fail
  go_ret
  exact ⟨rfl, ballocs (Below.refl _ _) _⟩
def RVarsC (t : Tm) : Prop := nodes t ≤ 1048576 → mayT t = true → ∀ (v : Value) (S : Nat → Bool) (A : Option Addr) (c : Nat) (w : World), TA w t v → IsAt w A c (varsUp S 100) →
  Calls Try.prog 58 #[v, .slice A (varsUp S 100).length c] w fun e w' => ∃ A' c', e = .returned (.slice A' (rvars t (varsUp S 100)).length c') ∧ IsAt w' A' c' (rvars t (varsUp S 100)) ∧ Below w.heap.size w w'
set_option maxRecDepth 100000 in
set_option maxHeartbeats 8000000 in
theorem rvars_any : ∀ t : Tm, RVarsC t := by
  refine Tm.ind fun t ih hnn hm v S A0 c0 w h hi => ?_
  have hmem : ∀ u ∈ t.l, mayT u = true := fun u hu => may_mem hm hu
  have ht := h
  obtain ⟨k, n, s, l, A, c, rfl, rfl, ok, hl⟩ := h.open_
  simp only [Tm.l_mk] at ih hmem
  obtain ⟨W1, hW1⟩ : ∃ W1, w.alloc (.cells #[.int .i64 k, .int .i64 n, .string s, .slice A l.length c] 24) = W1 := ⟨_, rfl⟩
  have hb1 : Below w.heap.size w W1 := by rw [← hW1]; exact ballocs (Below.refl _ _) _
  have hg : Blk W1 w.heap.size 24 #[.int .i64 k, .int .i64 n, .string s, .slice A l.length c] := by rw [← hW1]; exact Blk.new _ _ _
  obtain ⟨p0, p1, p2, p3, _, _, _, _⟩ := hg.four
  have HV := Lib.hid (rvar_any _ _ W1 (ht.later hb1) hnn)
  have HB1 := Lib.hid hb1; have HG := Lib.hid hg; have HW1 := Lib.hid hW1
  have HL := Lib.hid (hl.later hb1)
  have HI := Lib.hid (hi.later hb1)
  have HMK := Lib.hid (rvars_mk k n s l (varsUp S 100))
  have hlen : (varsUp S 100).length ≤ 65536 := Nat.le_trans (varsUp_len S 100) (by decide)
  have hv := varT_may hm
  rw [nodes_mk] at hnn
  have HIH := Lib.hid (fun u hu => ih u hu (by have := nodesL_mem hu; omega) (hmem u hu))
  have HUP := Lib.hid (fun u (hu : u ∈ l) S => rvars_up u (hmem u hu) S)
  have hllm : l.length ≤ 9223372036854775807 := by have := Nat.le_trans ok.hl ok.hc; unfold maxLen at this; exact this
  obtain ⟨V, hV⟩ : ∃ V, varsUp S 100 = V := ⟨_, rfl⟩
  cases hvt : varT (.mk k n s l) with
  | some q =>
    rw [hvt] at HV HMK
    unfold numV at HV
    have HR := Lib.hid HMK.out
    simp only at HR
    rw [hV] at HI HR hlen ⊢
    clear h ht ok hl hi hb1 hg hW1 hnn ih hmem hm hv hvt hV HMK HIH HUP
    go_enter Try.func58, Try.ntmps58
    go_wp2_with fail
    rw [HW1.out]
    refine HV.out.mono ?_
    rintro e w2 ⟨rfl, hb2⟩
    have HB2 := Lib.hid (bnext HB1.out hb2)
    have HW := Lib.hid (with_any V (q : Int) A0 c0 w2 (HI.out.later hb2) hlen)
    clear hb2
    go_wp2_with fail
    refine HW.out.mono ?_
    rintro e w3 ⟨A3, c3, rfl, hi3, hb3⟩
    have HI3 := Lib.hid hi3; have HB3 := Lib.hid (bnext HB2.out hb3)
    clear hi3 hb3
    go_wp2_with fail
    go_ret
    exact ⟨A3, c3, by rw [HR.out]; rfl, by rw [HR.out]; exact HI3.out, HB3.out⟩
  | none =>
    rw [hvt] at HV HMK
    unfold numV at HV
    have HR := Lib.hid HMK.out
    simp only at HR
    by_cases h79 : k = 7 ∨ k = 9
    · have HR2 := Lib.hid (show rvars (.mk k n s l) V = rvarsL l V from by rw [← hV, HR.out, if_pos h79])
      have HP := Lib.hid (fun w => rparts16_yes k n s A l.length c w h79)
      have HUP0 := Lib.hid hV
      rw [hV] at HI hlen ⊢
      clear h ht ok hl hi hb1 hg hW1 hnn ih hmem hm hv hvt HMK HR h79
      go_enter Try.func58, Try.ntmps58
      go_wp2_with fail
      rw [HW1.out]
      refine HV.out.mono ?_
      rintro e w2 ⟨rfl, hb2⟩
      have HB2 := Lib.hid (bnext HB1.out hb2)
      obtain ⟨p0, p1, p2, p3, _, _, _, _⟩ := (HG.out.below hb2 HG.out.lt).four
      have HL2 := Lib.hid (HL.out.later hb2)
      have HI2 := Lib.hid (HI.out.later hb2)
      clear hb2
      go_wp2_with fail
      refine (HP.out _).mono ?_
      rintro e w3 ⟨rfl, hb3⟩
      have HB3 := Lib.hid (bnext HB2.out hb3)
      have HL3 := Lib.hid (HL2.out.later hb3)
      have HI3 := Lib.hid (HI2.out.later hb3)
      clear hb3
      go_wp2_with fail
      go_loopw [1, 8] (fun x y wr => ∃ (i : Nat) (T : Nat → Bool) (A' : Option Addr) (c' : Nat), i ≤ l.length ∧ y = .int .i64 (i : Int) ∧ x = .slice A' (varsUp T 100).length c' ∧ rvarsL (l.take i) V = varsUp T 100 ∧ IsAt wr A' c' (varsUp T 100) ∧ Below w3.heap.size w3 wr) (fun _ y _ => l.length - (intOf y).toNat)
      case atStart => exact ⟨0, S, A0, c0, Nat.zero_le _, rfl, by rw [HUP0.out], by rw [List.take_zero, rvarsL_nil, HUP0.out], by rw [HUP0.out]; exact HI3.out, Below.refl _ _⟩
      case round =>
        obtain ⟨i, T, A', c', hi, rfl, rfl, hrv, hia, hb⟩ := hrel
        have HB := Lib.hid hb; have HRV := Lib.hid hrv; have HIA := Lib.hid hia
        clear hrv hia
        by_cases hlt : i < l.length
        · obtain ⟨u, hu⟩ : ∃ u, l[i]? = some u := ⟨_, List.getElem?_eq_getElem hlt⟩
          obtain ⟨b, o, A1, c1, rfl, hb1, d0, d1, d2, d3, hta, _⟩ := (HL3.out.later HB.out).at_ hu
          have HM := Lib.hid (List.mem_of_getElem? hu)
          have HC := Lib.hid (HIH.out u HM.out _ T A' c' wr hta HIA.out)
          have HU := Lib.hid (rvarsL_snoc (out := V) hu)
          have HT := Lib.hid (HUP.out u HM.out T)
          clear hta hu hb
          go_wp2_with fail
          refine HC.out.mono ?_
          rintro e w4 ⟨A4, c4, rfl, hi4, hb4⟩
          rw [HT.out] at hi4
          have HI4 := Lib.hid hi4; have HB4 := Lib.hid (bnext HB.out hb4)
          clear hi4 hb4
          rw [HT.out]
          go_wp2_with fail
          go_roundw
          case rel => exact ⟨i + 1, _, A4, c4, by omega, by go_num, rfl, by rw [HU.out, HRV.out, HT.out], HI4.out, HB4.out⟩
          case measure => simp [intOf]; omega
        · obtain rfl : i = l.length := by omega
          have HE := Lib.hid (show rvars (.mk k n s l) V = varsUp T 100 from by rw [HR2.out, ← HRV.out, List.take_length])
          clear hb
          go_wp2_with fail
          go_ret
          exact ⟨A', c', by rw [HE.out]; rfl, by rw [HE.out]; exact HIA.out, bnext HB3.out HB.out⟩
    · have HR2 := Lib.hid (show rvars (.mk k n s l) V = V from by rw [← hV, HR.out, if_neg h79])
      have HP := Lib.hid (fun w => rparts16_no k n s A l.length c w h79)
      rw [hV] at HI hlen ⊢
      clear h ht ok hl hi hb1 hg hW1 hnn ih hmem hm hv hvt HMK HR HIH HUP h79
      go_enter Try.func58, Try.ntmps58
      go_wp2_with fail
      rw [HW1.out]
      refine HV.out.mono ?_
      rintro e w2 ⟨rfl, hb2⟩
      have HB2 := Lib.hid (bnext HB1.out hb2)
      obtain ⟨p0, p1, p2, p3, _, _, _, _⟩ := (HG.out.below hb2 HG.out.lt).four
      have HI2 := Lib.hid (HI.out.later hb2)
      clear hb2
      go_wp2_with fail
      refine (HP.out _).mono ?_
      rintro e w3 ⟨rfl, hb3⟩
      have HB3 := Lib.hid (bnext HB2.out hb3)
      have HI3 := Lib.hid (HI2.out.later hb3)
      clear hb3
      go_wp2_with fail
      go_loopw [1, 8] (fun x y wr => x = .slice A0 V.length c0 ∧ y = .int .i64 0 ∧ w3 = wr) (fun _ _ _ => 0)
      case atStart => exact ⟨rfl, rfl, rfl⟩
      case round =>
        obtain ⟨rfl, rfl, rfl⟩ := hrel
        go_wp2_with fail
        go_ret
        exact ⟨A0, c0, by rw [HR2.out]; rfl, by rw [HR2.out]; exact HI3.out, HB3.out⟩
/-- tenureref16.Vars. -/
noncomputable def rvarsT (t : Tm) : List Int := if mayT t = true then rvars t [] else []
set_option maxRecDepth 100000 in
set_option maxHeartbeats 4000000 in
theorem rVars_any (t : Tm) (v : Value) (w : World) (h : TA w t v) (hn : nodes t ≤ 1048576) : Calls Try.prog 30 #[v] w fun e w' => ∃ A' c', e = .returned (.slice A' (rvarsT t).length c') ∧ IsAt w' A' c' (rvarsT t) ∧ Below w.heap.size w w' := by
  have ht := h
  obtain ⟨k, n, s, l, A, c, rfl, rfl, ok, hl⟩ := h.open_
  obtain ⟨W1, hW1⟩ : ∃ W1, w.alloc (.cells #[.int .i64 k, .int .i64 n, .string s, .slice A l.length c] 24) = W1 := ⟨_, rfl⟩
  have hb1 : Below w.heap.size w W1 := by rw [← hW1]; exact ballocs (Below.refl _ _) _
  have hg : Blk W1 w.heap.size 24 #[.int .i64 k, .int .i64 n, .string s, .slice A l.length c] := by rw [← hW1]; exact Blk.new _ _ _
  have HCk := Lib.hid (rcheck_any _ _ W1 (ht.later hb1) hn)
  have HB1 := Lib.hid hb1; have HG := Lib.hid hg; have HW1 := Lib.hid hW1
  have HT := Lib.hid (ht.later hb1)
  obtain ⟨T, hT⟩ : ∃ T, Tm.mk k n s l = T := ⟨_, rfl⟩
  rw [hT] at HCk HT hn ⊢
  obtain ⟨z, hz⟩ : ∃ z, chk T = z := ⟨_, rfl⟩
  rw [hz] at HCk
  by_cases h0 : z = 0
  · have hm : mayT T = true := by unfold mayT; rw [hz, h0]; rfl
    have HE := Lib.hid (show rvarsT T = rvars T [] from by unfold rvarsT; rw [if_pos hm])
    have HC := Lib.hid (fun w' (hb : Below W1.heap.size W1 w') => rvars_any T hn hm _ (fun _ => false) none 0 w' (HT.out.later hb) (by rw [varsUp_none]; exact IsAt.nil w'))
    simp only [varsUp_none, List.length_nil] at HC
    subst h0
    clear h ht ok hl hb1 hg hW1 hT hz hn hm
    go_enter Try.func30, Try.ntmps30
    go_wp2_with fail
    rw [HW1.out]
    refine HCk.out.mono ?_
    rintro e w2 ⟨rfl, hb2⟩
    have HB2 := Lib.hid (bnext HB1.out hb2)
    obtain ⟨p0, p1, p2, p3, _, _, _, _⟩ := (HG.out.below hb2 HG.out.lt).four
    have HC2 := Lib.hid (HC.out w2 hb2)
    clear hb2 HC
    go_wp2_with fail
    refine HC2.out.mono ?_
    rintro e w3 ⟨A3, c3, rfl, hi3, hb3⟩
    have HI3 := Lib.hid hi3; have HB3 := Lib.hid (bnext HB2.out hb3)
    clear hi3 hb3
    go_wp2_with fail
    go_ret
    exact ⟨A3, c3, by rw [HE.out]; rfl, by rw [HE.out]; exact HI3.out, HB3.out⟩
  · have hk : (z == 0) = false := by simpa using h0
    have hk2 : (z != 0) = true := by simpa using h0
    have HE := Lib.hid (show rvarsT T = [] from by unfold rvarsT mayT; rw [hz, if_neg (by simpa using h0)])
    clear h ht ok hl hb1 hg hW1 hT hz hn h0
    go_enter Try.func30, Try.ntmps30
    go_wp2_with fail
    rw [HW1.out]
    refine HCk.out.mono ?_
    rintro e w2 ⟨rfl, hb2⟩
    have HB2 := Lib.hid (bnext HB1.out hb2)
    clear hb2
    go_wp2_with fail
    go_ret
    exact ⟨none, 0, by rw [HE.out]; rfl, by rw [HE.out]; exact IsAt.nil _, HB2.out⟩
def RAnyInC (t : Tm) : Prop := ∀ (v : Value) (w : World), TA w t v → Calls Try.prog 59 #[v] w fun e w' => e = .returned (.bool (ranyIn t)) ∧ Below w.heap.size w w'
set_option maxRecDepth 100000 in
set_option maxHeartbeats 8000000 in
theorem ranyIn_any : ∀ t : Tm, RAnyInC t := by
  refine Tm.ind fun t ih v w h => ?_
  have ht := h
  obtain ⟨k, n, s, l, A, c, rfl, rfl, ok, hl⟩ := h.open_
  simp only [Tm.l_mk] at ih
  have hll : l.length ≤ 9223372036854775807 := by have := Nat.le_trans ok.hl ok.hc; unfold maxLen at this; exact this
  obtain ⟨W1, hW1⟩ : ∃ W1, w.alloc (.cells #[.int .i64 k, .int .i64 n, .string s, .slice A l.length c] 24) = W1 := ⟨_, rfl⟩
  have hb1 : Below w.heap.size w W1 := by rw [← hW1]; exact ballocs (Below.refl _ _) _
  have hg : Blk W1 w.heap.size 24 #[.int .i64 k, .int .i64 n, .string s, .slice A l.length c] := by rw [← hW1]; exact Blk.new _ _ _
  obtain ⟨p0, p1, p2, p3, _, _, _, _⟩ := hg.four
  have HB1 := Lib.hid hb1; have HG := Lib.hid hg; have HW1 := Lib.hid hW1
  have HL := Lib.hid (hl.later hb1)
  have HIH := Lib.hid ih
  have HMK := Lib.hid (ranyIn_mk k n s l)
  clear h ht ok hl hb1 hg ih hW1
  by_cases h79 : k = 7 ∨ k = 9
  · have HR := Lib.hid (show ranyIn (.mk k n s l) = ranyInL l from by rw [HMK.out, if_neg (by omega), if_pos h79])
    have HP := Lib.hid (fun w => rparts16_yes k n s A l.length c w h79)
    have hk2 : (k == 2) = false := by simp; omega
    clear h79
    go_enter Try.func59, Try.ntmps59
    go_wp2_with fail
    rw [HW1.out]
    refine (HP.out _).mono ?_
    rintro e w3 ⟨rfl, hb3⟩
    have HB3 := Lib.hid (bnext HB1.out hb3)
    have HL3 := Lib.hid (HL.out.later hb3)
    clear hb3
    go_wp2_with fail
    go_loopw [4] (fun y wr => ∃ (i : Nat), i ≤ l.length ∧ y = .int .i64 (i : Int) ∧ ranyInL (l.take i) = false ∧ Below w3.heap.size w3 wr) (fun y _ => l.length - (intOf y).toNat)
    case atStart => exact ⟨0, Nat.zero_le _, rfl, by rw [List.take_zero, ranyInL_nil], Below.refl _ _⟩
    case round =>
      obtain ⟨i, hi, rfl, hrv, hb⟩ := hrel
      have HB := Lib.hid hb; have HRV := Lib.hid hrv
      clear hrv
      by_cases hlt : i < l.length
      · obtain ⟨u, hu⟩ : ∃ u, l[i]? = some u := ⟨_, List.getElem?_eq_getElem hlt⟩
        obtain ⟨b, o, A1, c1, rfl, hb1, d0, d1, d2, d3, hta, _⟩ := (HL3.out.later HB.out).at_ hu
        have HC := Lib.hid (HIH.out u (List.mem_of_getElem? hu) _ wr hta)
        have HU := Lib.hid (ranyInL_snoc hu)
        have HY := Lib.hid (fun h => ranyInL_yes hu h)
        clear hta hu hb
        cases hx : ranyIn u with
        | true =>
          rw [hx] at HC
          have HYES := Lib.hid (HY.out hx)
          clear hx HY
          go_wp2_with fail
          refine HC.out.mono ?_
          rintro e w4 ⟨rfl, hb4⟩
          have HB4 := Lib.hid (bnext HB.out hb4)
          clear hb4
          go_wp2_with fail
          go_ret
          exact ⟨ret1_b (by rw [HR.out, HYES.out]), bnext HB3.out HB4.out⟩
        | false =>
          rw [hx] at HC
          have HNO := Lib.hid (show ranyInL (l.take (i + 1)) = false from by rw [HU.out, HRV.out, hx]; rfl)
          clear hx HY
          go_wp2_with fail
          refine HC.out.mono ?_
          rintro e w4 ⟨rfl, hb4⟩
          have HB4 := Lib.hid (bnext HB.out hb4)
          clear hb4
          go_wp2_with fail
          go_roundw
          case rel => exact ⟨i + 1, by omega, by go_num, HNO.out, HB4.out⟩
          case measure => simp [intOf]; omega
      · obtain rfl : i = l.length := by omega
        have HE := Lib.hid (show ranyIn (.mk k n s l) = false from by rw [HR.out, ← HRV.out, List.take_length])
        clear hb
        go_wp2_with fail
        go_ret
        exact ⟨ret1_b (by rw [HE.out]), bnext HB3.out HB.out⟩
  · have HP := Lib.hid (fun w => rparts16_no k n s A l.length c w h79)
    by_cases h2 : k = 2
    · subst h2
      by_cases hus : s = uscore
      · have hu1 : (s.toList == [95]) = true := by rw [hus, Lib.toList_data]; rfl
        have hu2 : s.toList = [95] := by rw [hus, Lib.toList_data]; rfl
        have HE := Lib.hid (show ranyIn (.mk 2 n s l) = true from by rw [HMK.out, if_pos ⟨rfl, hus⟩])
        clear hus h79
        go_enter Try.func59, Try.ntmps59
        go_wp2_with fail
        go_ret
        exact ⟨ret1_b HE.out.symm, by rw [HW1.out]; exact HB1.out⟩
      · have hu1 := us_ne hus
        have HE := Lib.hid (show ranyIn (.mk 2 n s l) = false from by rw [HMK.out, if_neg (fun e => hus e.2), if_neg (by omega)])
        clear hus h79
        go_enter Try.func59, Try.ntmps59
        go_wp2_with fail
        rw [HW1.out]
        refine (HP.out _).mono ?_
        rintro e w3 ⟨rfl, hb3⟩
        have HB3 := Lib.hid (bnext HB1.out hb3)
        clear hb3
        go_wp2_with fail
        go_loopw [4] (fun y wr => y = .int .i64 0 ∧ w3 = wr) (fun _ _ => 0)
        case atStart => exact ⟨rfl, rfl⟩
        case round =>
          obtain ⟨rfl, rfl⟩ := hrel
          go_wp2_with fail
          go_ret
          exact ⟨ret1_b HE.out.symm, HB3.out⟩
    · have hk2 : (k == 2) = false := by simp; omega
      have HE := Lib.hid (show ranyIn (.mk k n s l) = false from by rw [HMK.out, if_neg (fun e => h2 e.1), if_neg h79])
      clear h2 h79
      go_enter Try.func59, Try.ntmps59
      go_wp2_with fail
      rw [HW1.out]
      refine (HP.out _).mono ?_
      rintro e w3 ⟨rfl, hb3⟩
      have HB3 := Lib.hid (bnext HB1.out hb3)
      clear hb3
      go_wp2_with fail
      go_loopw [4] (fun y wr => y = .int .i64 0 ∧ w3 = wr) (fun _ _ => 0)
      case atStart => exact ⟨rfl, rfl⟩
      case round =>
        obtain ⟨rfl, rfl⟩ := hrel
        go_wp2_with fail
        go_ret
        exact ⟨ret1_b HE.out.symm, HB3.out⟩
end Go.Proofs.Ytlaplakaifmpeaa.Pt
