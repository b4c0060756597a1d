/- pattern.may, Var, Any, Vars, Bound, by contracts. -/
import Derived.Test.YtlaplakaifmpeaaPatLeafs
namespace Go.Proofs.Ytlaplakaifmpeaa.Pt
open Go.RowKit K Go.Shelf
set_option linter.unusedVariables false
set_option linter.unusedSimpArgs false
attribute [local go_sem] Oper.semAt_some

def mayT (t : Tm) : Bool := decide (chk t = 0)
theorem may_any (t : Tm) (v : Value) (w : World) (h : TA w t v) (hn : nodes t ≤ 1048576) : Calls Try.prog 41 #[v] w fun e w' => e = .returned (.bool (mayT t)) ∧ Below w.heap.size w w' := by
  have ht := h
  obtain ⟨k, n, s, l, A, c, rfl, rfl, ok, hl⟩ := h.open_
  obtain ⟨W1, hW1⟩ : ∃ W1, w.alloc (.cells #[.int .i64 k, .int .i64 n, .string s, .slice A l.length c] 24) = W1 := ⟨_, rfl⟩
  have HB1 := Lib.hid (show Below w.heap.size w W1 from by rw [← hW1]; exact ballocs (Below.refl _ _) _)
  have HC := Lib.hid (check_any _ _ W1 (ht.later HB1.out) hn)
  obtain ⟨T, hT⟩ : ∃ T, Tm.mk k n s l = T := ⟨_, rfl⟩
  rw [hT] at HC ⊢
  obtain ⟨cv, hcv⟩ : ∃ x, chk T = x := ⟨_, rfl⟩
  rw [hcv] at HC
  have HM := Lib.hid (show (cv == 0) = mayT T from by unfold mayT; rw [hcv]; rfl)
  have HW := Lib.hid hW1
  clear ht h ok hl hT hcv hW1
  go_enter Try.func41, Try.ntmps41
  go_wp2_with fail
  rw [HW.out]
  refine HC.out.mono ?_
  rintro e w2 ⟨rfl, hb⟩
  have HB2 := Lib.hid (bnext HB1.out hb)
  clear hb
  go_wp2_with fail
  go_ret
  exact ⟨ret1_b HM.out, HB2.out⟩
def varT (t : Tm) : Option Nat := if t.k = 2 ∧ chk t = 0 then numS t.s else none
set_option maxRecDepth 100000 in
set_option maxHeartbeats 4000000 in
theorem var_any (t : Tm) (v : Value) (w : World) (h : TA w t v) (hn : nodes t ≤ 1048576) : Calls Try.prog 24 #[v] w fun e w' => e = .returned (numV (varT t)) ∧ Below w.heap.size w w' := by
  have ht := h
  obtain ⟨k, n, s, l, A, c, rfl, rfl, ok, hl⟩ := h.open_
  obtain ⟨W1, hW1⟩ : ∃ W1, w.alloc (.cells #[.int .i64 k, .int .i64 n, .string s, .slice A l.length c] 24) = W1 := ⟨_, rfl⟩
  have HB1 := Lib.hid (show Below w.heap.size w W1 from by rw [← hW1]; exact ballocs (Below.refl _ _) _)
  have HG := Lib.hid (show Blk W1 w.heap.size 24 #[.int .i64 k, .int .i64 n, .string s, .slice A l.length c] from by rw [← hW1]; exact Blk.new _ _ _)
  have HC := Lib.hid (may_any _ _ W1 (ht.later HB1.out) hn)
  have HN := Lib.hid (number_any s (show s.size ≤ maxLen from ok.ws))
  obtain ⟨q0, q1, q2, q3, _, _, _, _⟩ := HG.out.four
  have HW := Lib.hid hW1
  by_cases h2 : k = 2
  · subst h2
    cases hm : mayT (.mk 2 n s l) with
    | true =>
      have HV := Lib.hid (show varT (.mk 2 n s l) = numS s from by
        unfold mayT at hm
        unfold varT
        rw [if_pos ⟨rfl, of_decide_eq_true hm⟩]; rfl)
      rw [hm] at HC
      clear ht h ok hl hW1 hm
      go_enter Try.func24, Try.ntmps24
      go_wp2_with fail
      rw [HW.out]
      refine HC.out.mono ?_
      rintro e w2 ⟨rfl, hb⟩
      have HB2 := Lib.hid (bnext HB1.out hb)
      obtain ⟨p0, p1, p2, p3, _, _, _, _⟩ := (HG.out.below hb HG.out.lt).four
      clear hb
      go_wp2_with fail
      refine (HN.out w2).mono ?_
      rintro e w3 ⟨rfl, hb⟩
      have HB3 := Lib.hid (bnext HB2.out hb)
      clear hb
      unfold numV
      cases hs : numS s with
      | none =>
        have HS := Lib.hid hs
        clear hs
        go_wp2_with fail
        go_ret2
        exact ⟨by rw [HV.out, HS.out]; rfl, HB3.out⟩
      | some m =>
        have HS := Lib.hid hs
        clear hs
        go_wp2_with fail
        go_ret2
        exact ⟨by rw [HV.out, HS.out]; rfl, HB3.out⟩
    | false =>
      have HV := Lib.hid (show varT (.mk 2 n s l) = none from by
        unfold mayT at hm
        unfold varT
        rw [if_neg (fun h => of_decide_eq_false hm h.2)])
      rw [hm] at HC
      clear ht h ok hl hW1 hm
      go_enter Try.func24, Try.ntmps24
      go_wp2_with fail
      rw [HW.out]
      refine HC.out.mono ?_
      rintro e w2 ⟨rfl, hb⟩
      have HB2 := Lib.hid (bnext HB1.out hb)
      clear hb
      go_wp2_with fail
      go_ret2
      exact ⟨by rw [HV.out]; rfl, HB2.out⟩
  · have hk : (k == 2) = false := by rw [beq_eq_false_iff_ne]; exact h2
    have hk2 : (k != 2) = true := by rw [bne_iff_ne]; exact h2
    have HV := Lib.hid (show varT (.mk k n s l) = none from by unfold varT; rw [if_neg (fun h => h2 h.1)])
    clear ht h ok hl h2 hW1
    go_enter Try.func24, Try.ntmps24
    go_wp2_with fail
    go_ret2
    exact ⟨by rw [HV.out]; rfl, by rw [HW.out]; exact HB1.out⟩
def uscore : ByteArray := ⟨#[95]⟩
theorem us_ne {s : ByteArray} (h : s ≠ uscore) : (s.toList == [95]) = false := by
  have := tstr_ne h
  rwa [show uscore.toList = [95] from by rw [Lib.toList_data]; rfl] at this
def anyT (t : Tm) : Bool := decide (t.k = 2) && (decide (t.s = uscore) && mayT t)
set_option maxRecDepth 100000 in
set_option maxHeartbeats 4000000 in
theorem any_any (t : Tm) (v : Value) (w : World) (h : TA w t v) (hn : nodes t ≤ 1048576) : Calls Try.prog 26 #[v] w fun e w' => e = .returned (.bool (anyT t)) ∧ Below w.heap.size w w' := by
  have ht := h
  obtain ⟨k, n, s, l, A, c, rfl, rfl, ok, hl⟩ := h.open_
  obtain ⟨W1, hW1⟩ : ∃ W1, w.alloc (.cells #[.int .i64 k, .int .i64 n, .string s, .slice A l.length c] 24) = W1 := ⟨_, rfl⟩
  have HB1 := Lib.hid (show Below w.heap.size w W1 from by rw [← hW1]; exact ballocs (Below.refl _ _) _)
  have HC := Lib.hid (may_any _ _ W1 (ht.later HB1.out) hn)
  have HW := Lib.hid hW1
  by_cases h2 : k = 2
  · subst h2
    by_cases hs : s = uscore
    · subst hs
      have HV := Lib.hid (show mayT (.mk 2 n uscore l) = anyT (.mk 2 n uscore l) from by simp [anyT])
      unfold uscore
      clear ht h ok hl hW1
      go_enter Try.func26, Try.ntmps26
      go_wp2_with fail
      rw [show (⟨#[95]⟩ : ByteArray) = uscore from rfl, HW.out]
      refine HC.out.mono ?_
      rintro e w2 ⟨rfl, hb⟩
      have HB2 := Lib.hid (bnext HB1.out hb)
      clear hb
      go_wp2_with fail
      go_ret
      exact ⟨ret1_b HV.out, HB2.out⟩
    · have hs2 := us_ne hs
      have HV := Lib.hid (show false = anyT (.mk 2 n s l) from by simp [anyT, hs])
      clear ht h ok hl hs hW1
      go_enter Try.func26, Try.ntmps26
      go_wp2_with fail
      go_ret
      exact ⟨ret1_b HV.out, by rw [HW.out]; exact HB1.out⟩
  · have hk : (k == 2) = false := by rw [beq_eq_false_iff_ne]; exact h2
    have HV := Lib.hid (show false = anyT (.mk k n s l) from by simp [anyT, h2])
    clear ht h ok hl h2 hW1
    go_enter Try.func26, Try.ntmps26
    go_wp2_with fail
    go_ret
    exact ⟨ret1_b HV.out, by rw [HW.out]; exact HB1.out⟩
end Go.Proofs.Ytlaplakaifmpeaa.Pt
