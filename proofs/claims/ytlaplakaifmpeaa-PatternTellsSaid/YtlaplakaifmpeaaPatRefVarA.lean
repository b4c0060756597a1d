/- tenureref16.Var, by its contract. -/
import Derived.Test.YtlaplakaifmpeaaPatRefVar3
namespace Go.Proofs.Ytlaplakaifmpeaa.Pt
open Go.RowKit K Go.Shelf
set_option linter.unusedVariables false
set_option linter.unusedSimpArgs false

theorem rvC_any (s : ByteArray) (hm : s.size ≤ maxLen) : RvC s := by
  by_cases h2 : s.size = 2
  · obtain ⟨⟨l⟩⟩ := s
    match l, h2 with
    | [a, b], _ => exact rv_two a b
  by_cases h3 : s.size = 3
  · obtain ⟨⟨l⟩⟩ := s
    match l, h3 with
    | [a, b, c], _ => exact rv_three a b c
  exact rv_out s (by omega) hm
set_option maxRecDepth 100000 in
set_option maxHeartbeats 4000000 in
theorem rvar_any (t : Tm) (v : Value) (w : World) (h : TA w t v) (hn : nodes t ≤ 1048576) : Calls Try.prog 25 #[v] w fun e w' => e = .returned (numV (varT t)) ∧ Below w.heap.size w w' := by
  have ht := h
  obtain ⟨k, n, s, l, A, c, rfl, rfl, ok, hl⟩ := h.open_
  obtain ⟨W1, hW1⟩ : ∃ W1, w.alloc (.cells #[.int .i64 k, .int .i64 n, .string s, .slice A l.length c] 24) = W1 := ⟨_, rfl⟩
  have hb1 : Below w.heap.size w W1 := by rw [← hW1]; exact ballocs (Below.refl _ _) _
  have hg : Blk W1 w.heap.size 24 #[.int .i64 k, .int .i64 n, .string s, .slice A l.length c] := by rw [← hW1]; exact Blk.new _ _ _
  have hck := rcheck_any _ _ W1 (ht.later hb1) hn
  obtain ⟨z, hz⟩ : ∃ z, chk (.mk k n s l) = z := ⟨_, rfl⟩
  rw [hz] at hck
  by_cases h0 : z = 0
  · subst h0
    by_cases h2 : k = 2
    · subst h2
      have hv : varT (.mk 2 n s l) = numS s := by unfold varT; rw [if_pos ⟨rfl, hz⟩]; rfl
      rw [hv]
      exact rvC_any s ok.ws n l A c w W1 hW1 hb1 hg (Nat.le_trans ok.hl ok.hc) hck
    · have HNO := Lib.hid (show numV (varT (.mk k n s l)) = .tuple #[.int .i64 0, .bool false] from by rw [varT_no (.inl (by simpa only [Tm.k_mk] using h2))]; rfl)
      have HCk := Lib.hid hck
      have HB1 := Lib.hid hb1; have HG := Lib.hid hg; have HW1 := Lib.hid hW1
      have hk : (k == 2) = false := by simpa using h2
      have hk2 : (k != 2) = true := by simpa using h2
      clear h ht hl hb1 hg hW1 hn hck hz ok h2
      go_enter Try.func25, Try.ntmps25
      go_wp2_with fail
      rw [HW1.out]
      refine HCk.out.mono ?_
      rintro e w2 ⟨rfl, hb2⟩
      have HB2 := Lib.hid (bnext HB1.out hb2)
      obtain ⟨p0, p1, p2, p3, _, _, _, _⟩ := (HG.out.below hb2 HG.out.lt).four
      clear hb2
      go_wp2_with fail
      go_ret2
      exact ⟨by rw [HNO.out]; rfl, HB2.out⟩
  · have HNO := Lib.hid (show numV (varT (.mk k n s l)) = .tuple #[.int .i64 0, .bool false] from by rw [varT_no (.inr (by rw [hz]; exact h0))]; rfl)
    have HCk := Lib.hid hck
    have HB1 := Lib.hid hb1; have HG := Lib.hid hg; have HW1 := Lib.hid hW1
    have hk : (z == 0) = false := by simpa using h0
    have hk2 : (z != 0) = true := by simpa using h0
    clear h ht hl hb1 hg hW1 hn hck hz ok h0
    go_enter Try.func25, Try.ntmps25
    go_wp2_with fail
    rw [HW1.out]
    refine HCk.out.mono ?_
    rintro e w2 ⟨rfl, hb2⟩
    have HB2 := Lib.hid (bnext HB1.out hb2)
    obtain ⟨p0, p1, p2, p3, _, _, _, _⟩ := (HG.out.below hb2 HG.out.lt).four
    clear hb2
    go_wp2_with fail
    go_ret2
    exact ⟨by rw [HNO.out]; rfl, HB2.out⟩
end Go.Proofs.Ytlaplakaifmpeaa.Pt
