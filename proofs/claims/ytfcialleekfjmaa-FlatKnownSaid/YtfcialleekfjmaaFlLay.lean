/- Flatten's closure, by a contract. -/
import Derived.Test.YtfcialleekfjmaaFlNum
import Derived.Test.YtfcialleekfjmaaFlLayP
import Derived.Test.YtfcialleekfjmaaWord
import Derived.Test.YtfcialleekfjmaaSound
import Derived.Laws.EntriesVeiled
namespace Go.Proofs.Ytfcialleekfjmaa.Fl
open Go.RowKit K At Wd
set_option linter.unusedVariables false
set_option linter.unusedSimpArgs false

theorem sound_leaf {k n : Int} {s : ByteArray} {l : List Tm} (hs : soundB (.mk k n s l) = true) (h2 : k ≠ 2) (hb : ¬ boxK k) : l = [] ∧ s.size = 0 := by
  unfold boxK at hb
  by_cases h1 : k = 1
  · subst h1; have h := (soundB_1 n s l).1 hs; exact ⟨List.eq_nil_of_length_eq_zero h.2.2.2, h.2.2.1⟩
  by_cases h3 : k = 3
  · subst h3; have h := (soundB_3 n s l).1 hs; exact ⟨List.eq_nil_of_length_eq_zero h.2.2.2, h.2.2.1⟩
  by_cases h4 : k = 4
  · subst h4; have h := (soundB_4 n s l).1 hs; exact ⟨List.eq_nil_of_length_eq_zero h.2.2.2, h.2.2.1⟩
  by_cases h6 : k = 6
  · subst h6; have h := (soundB_6 n s l).1 hs; exact ⟨List.eq_nil_of_length_eq_zero h.2.2.2, h.2.2.1⟩
  by_cases h8 : k = 8
  · subst h8; have h := (soundB_8 n s l).1 hs; exact ⟨List.eq_nil_of_length_eq_zero h.2.2, h.2.1⟩
  · rw [soundB_no h1 h2 h3 h4 (by omega) h6 (by omega) h8 (by omega)] at hs
    cases hs
theorem fbelow {w w1 w2 : World} (h : Below w.heap.size w w1) (h' : Below w1.heap.size w1 w2) : Below w.heap.size w w2 := h.trans (h'.mono h.size)
theorem ret2_wi {a b a' b' : Int} (h : a = b) (h' : a' = b') : Ending.returned (.tuple #[.int .u64 a, .int .i64 a']) = .returned (.tuple #[.int .u64 b, .int .i64 b']) := by rw [h, h']
theorem fdrewN {w w' : World} (h : Below w.heap.size w w') (n : Nat) : Below w.heap.size w (w'.drewN n) := ⟨h.os, h.tape, h.output, h.size, h.block⟩
def LayPost (w : World) (M : Nat → Prop) (B g gO : Nat) (t : Tm) (L : List ByteArray) (O : List Int) (e : Ending) (w' : World) : Prop :=
  ((nums t L).1 = true ∧ e = .returned (.tuple #[.int .u64 (ownW (ix (nums t L).2) t O.length), .int .i64 0]) ∧ FMoved w M B g gO (nums t L).2 (O ++ lay (ix (nums t L).2) t O.length) w') ∨
  ((nums t L).1 = false ∧ ∃ (y : Int) (O' : List Int), e = .returned (.tuple #[.int .u64 0, .int .i64 y]) ∧ (y == 0) = false ∧ FMoved w M B g gO (nums t L).2 O' w')
def LayC (t : Tm) : Prop := ∀ (v : Value) (w : World) (M G : Nat → Prop) (B g gO gA gL : Nat) (L : List ByteArray) (O : List Int), Fs w M B g gO L O → TAt w G t v → (∀ b, G b → b < w.heap.size ∧ ¬ M b) → FVars w M B g gO gA gL → sndL (subs t) = true → (O.length : Int) + wds t ≤ 65537 →
  Calls Try.prog 37 #[v, .pointer (some ⟨gO, 0, none⟩), .pointer (some ⟨gA, 0, none⟩), .pointer (some ⟨gL, 0, none⟩)] w (LayPost w M B g gO t L O)
set_option maxRecDepth 100000 in
set_option maxHeartbeats 8000000 in
theorem lay_leaf (k n : Int) (s : ByteArray) (l : List Tm) (A : Option Addr) (c : Nat) (hw : (Lit.int .i64 k).wf = true ∧ (Lit.int .i64 n).wf = true) (w : World) (M : Nat → Prop) (B g gO gA gL : Nat) (L : List ByteArray) (O : List Int) (hF : Fs w M B g gO L O) (hv : FVars w M B g gO gA gL) (hO : O.length ≤ 65537) (hs : soundB (.mk k n s l) = true) (h2 : k ≠ 2) (hb : ¬ boxK k) :
    Calls Try.prog 37 #[.agg #[.int .i64 k, .int .i64 n, .string s, .slice A l.length c], .pointer (some ⟨gO, 0, none⟩), .pointer (some ⟨gA, 0, none⟩), .pointer (some ⟨gL, 0, none⟩)] w (LayPost w M B g gO (.mk k n s l) L O) := by
  have h8 : k = 8 → n = 0 := fun e => by subst e; exact ((soundB_8 n s l).1 hs).1
  have b7 : (k == 7) = false := by unfold boxK at hb; simp; omega
  have b5 : (k == 5) = false := by unfold boxK at hb; simp; omega
  have b9 : (k == 9) = false := by unfold boxK at hb; simp; omega
  have HE := Lib.hid (show nums (.mk k n s l) L = (true, L) ∧ ownW (ix L) (.mk k n s l) O.length = packW k n ∧ lay (ix L) (.mk k n s l) O.length = [] from by
    obtain rfl : l = [] := (sound_leaf hs h2 hb).1
    refine ⟨by rw [nums_mk, if_neg h2, numsL_nil], by rw [ownW_mk, if_neg h2, if_neg hb], by rw [lay_mk, if_neg hb]⟩)
  have HN := Lib.hid (fun (w : World) => number_leaf (.pointer (some ⟨g, 0, none⟩)) k n s A l.length c w h2 h8)
  have HP := Lib.hid (fun (w : World) => pack_any k n hw.1 hw.2 w)
  have hB := Blk.new w 24 #[.int .i64 k, .int .i64 n, .string s, .slice A l.length c]
  have hb0 := ballocs (Below.refl w.heap.size w) (.cells #[.int .i64 k, .int .i64 n, .string s, .slice A l.length c] 24)
  have HF := Lib.hid hF
  have hF0 := hF.below hb0
  obtain ⟨v1, v2, _, _⟩ := hv.keep (M' := M) (Keep.new (F := M) hb0) (fun k h => .inl h)
  have HB0 := Lib.hid hb0
  clear hF hs h8 hw hb h2 hb0 hv
  go_enter Try.func37, Try.ntmps37
  go_wp2_with fail
  obtain ⟨w0, hw0⟩ : ∃ x, w.alloc (.cells #[.int .i64 k, .int .i64 n, .string s, .slice A l.length c] 24) = x := ⟨_, rfl⟩
  rw [hw0] at hB HB0 hF0 v1 v2 ⊢
  obtain ⟨A0, c0, hc, _, _, hca, hcm⟩ := hF0.cell
  obtain ⟨p0, p1, p2, p3, _, _, _, _⟩ := hB.four
  have HF0 := Lib.hid hF0
  clear hw0 hF0 hcm hca hB
  go_quiet (fail)
  go_wp2_with (first
    | (go_at_call 39; refine (HN.out _).mono ?_; rintro e w1 ⟨rfl, hb1⟩; have q0 := (hb1.cell (p := ⟨w.heap.size, 0, none⟩) (World.block_lt_of_cell? _ _ p0)).trans p0)
    | (go_at_call 38; refine (HP.out _).mono ?_; rintro e w2 ⟨rfl, hb2⟩))
  go_ret2
  obtain ⟨e1, e2, e3⟩ := HE.out
  refine .inl ?_
  rw [e1]
  refine ⟨rfl, ?_, ?_⟩
  · rw [e2]; exact ret2_wi rfl rfl
  · rw [e3, List.append_nil]
    exact (FMoved.stay HF.out).trans (fbelow HB0.out (bundrewN (hb1.trans (hb2.mono hb1.size)))) (fun M' h _ _ => FMoved.stay h)
set_option maxRecDepth 100000 in
set_option maxHeartbeats 8000000 in
theorem lay_sym (s : ByteArray) (A : Option Addr) (c : Nat) (w : World) (M : Nat → Prop) (B g gO gA gL : Nat) (L : List ByteArray) (O : List Int) (hF : Fs w M B g gO L O) (hv : FVars w M B g gO gA gL) (hO : O.length ≤ 65537) (hs : soundB (.mk 2 0 s []) = true) :
    Calls Try.prog 37 #[.agg #[.int .i64 2, .int .i64 0, .string s, .slice A 0 c], .pointer (some ⟨gO, 0, none⟩), .pointer (some ⟨gA, 0, none⟩), .pointer (some ⟨gL, 0, none⟩)] w (LayPost w M B g gO (.mk 2 0 s []) L O) := by
  obtain ⟨_, h64, _⟩ := (soundB_2 0 s []).1 hs
  have HE := Lib.hid (show nums (.mk 2 0 s []) L = (decide (inE L s = 0), inL L s) ∧ (∀ f, lay f (.mk 2 0 s []) O.length = []) from ⟨by rw [nums_mk, if_pos rfl], fun f => by rw [lay_mk, if_neg (by decide)]⟩)
  have HN := Lib.hid (fun (w : World) (h : Fs w M B g gO L O) => number_sym 0 s A 0 c w M B g gO L O h h64)
  have hB := Blk.new w 24 #[.int .i64 2, .int .i64 0, .string s, .slice A 0 c]
  have hb0 := ballocs (Below.refl w.heap.size w) (.cells #[.int .i64 2, .int .i64 0, .string s, .slice A 0 c] 24)
  have HF := Lib.hid hF
  have hF0 := hF.below hb0
  obtain ⟨v1, v2, _, _⟩ := hv.keep (M' := M) (Keep.new (F := M) hb0) (fun k h => .inl h)
  have HB0 := Lib.hid hb0
  have hM : ¬ M w.heap.size := fun h => by
    obtain ⟨F, v, _, _, _, _, _, _, _, _, h5⟩ := hF
    have := h5 _ h; omega
  have HM := Lib.hid hM
  have hiN : 0 ≤ inN L s ∧ inN L s ≤ 4096 ∧ (inE L s = 0 ∨ (inE L s == 0) = false) := by
    obtain ⟨F, v, _, hT, _⟩ := hF
    obtain ⟨bm, v, D, fl, fg, fm, fv, hB, hM, hD, hR, hnd, hsz, hl4, hby⟩ := hT
    have := idx_le L s
    refine ⟨?_, ?_, ?_⟩
    · unfold inN; repeat' split
      all_goals omega
    · unfold inN; repeat' split
      all_goals omega
    · by_cases h : inE L s = 0
      · exact .inl h
      · exact .inr (by simpa using h)
  obtain ⟨i1, i2, i3⟩ := hiN
  have HP := Lib.hid (fun (w : World) => pack_any 2 (inN L s) (by decide) (WalkArith.wf_i64 (by omega)) w)
  clear hF hs hb0 hv h64 hM
  rcases i3 with i3 | i3
  · have HI3 := Lib.hid i3
    have b3 : (inE L s == 0) = true := by rw [i3]; rfl
    clear i3
    go_enter Try.func37, Try.ntmps37
    go_wp2_with fail
    obtain ⟨w0, hw0⟩ : ∃ x, w.alloc (.cells #[.int .i64 2, .int .i64 0, .string s, .slice A 0 c] 24) = x := ⟨_, rfl⟩
    rw [hw0] at hB HB0 hF0 v1 v2 ⊢
    obtain ⟨A0, c0, hc, _, _, hca, hcm⟩ := hF0.cell
    obtain ⟨p0, p1, p2, p3, _, _, _, _⟩ := hB.four
    have HF0 := Lib.hid hF0
    clear hw0 hF0 hcm hca hB
    go_quiet (fail)
    go_wp2_with (first
      | (go_at_call 39; refine (HN.out _ (HF0.out.below (bundrewN (Below.refl _ _) : Below w0.heap.size w0 (w0.drewN nq)))).mono ?_; rintro e w1 ⟨rfl, hm1⟩
         have q0 : w1.cell? ⟨w.heap.size, 0, none⟩ = some (.int .i64 2) := by
           obtain ⟨M1, _, _, hk1⟩ := hm1
           exact (hk1.cell (p := ⟨w.heap.size, 0, none⟩) (World.block_lt_of_cell? w0 _ p0) HM.out).trans p0
         have HM1 := Lib.hid hm1; clear hm1)
      | (go_at_call 38; refine (HP.out _).mono ?_; rintro e w2 ⟨rfl, hb2⟩))
    go_ret2
    refine .inl ?_
    rw [HE.out.1]
    refine ⟨by simp [HI3.out], ?_, ?_⟩
    · refine ret2_wi ?_ rfl
      show _ = ownW (ix (inL L s)) (.mk 2 0 s []) O.length
      rw [ownW_mk, if_pos rfl, inN_idx HI3.out]
      rfl
    · rw [HE.out.2, List.append_nil]
      exact (HM1.out.trans hb2 (fun M' h _ _ => FMoved.stay h)).from_ (fdrewN HB0.out nq)
  · have HI3 := Lib.hid i3
    clear HP
    go_enter Try.func37, Try.ntmps37
    go_wp2_with fail
    obtain ⟨w0, hw0⟩ : ∃ x, w.alloc (.cells #[.int .i64 2, .int .i64 0, .string s, .slice A 0 c] 24) = x := ⟨_, rfl⟩
    rw [hw0] at hB HB0 hF0 v1 v2 ⊢
    obtain ⟨A0, c0, hc, _, _, hca, hcm⟩ := hF0.cell
    obtain ⟨p0, p1, p2, p3, _, _, _, _⟩ := hB.four
    have HF0 := Lib.hid hF0
    clear hw0 hF0 hcm hca hB
    go_quiet (fail)
    go_wp2_with (first
      | (go_at_call 39; refine (HN.out _ (HF0.out.below (bundrewN (Below.refl _ _) : Below w0.heap.size w0 (w0.drewN nq)))).mono ?_; rintro e w1 ⟨rfl, hm1⟩
         have q0 : w1.cell? ⟨w.heap.size, 0, none⟩ = some (.int .i64 2) := by
           obtain ⟨M1, _, _, hk1⟩ := hm1
           exact (hk1.cell (p := ⟨w.heap.size, 0, none⟩) (World.block_lt_of_cell? w0 _ p0) HM.out).trans p0
         have HM1 := Lib.hid hm1; clear hm1))
    go_ret2
    refine .inr ?_
    rw [HE.out.1]
    refine ⟨by have := HI3.out; simpa using this, inE L s, O, rfl, HI3.out, ?_⟩
    exact HM1.out.from_ (fdrewN HB0.out nq)
end Go.Proofs.Ytfcialleekfjmaa.Fl
