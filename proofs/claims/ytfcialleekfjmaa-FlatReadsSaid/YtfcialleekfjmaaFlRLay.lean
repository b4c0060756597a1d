/- The document's lay, by a contract. (Printed by mk_rlay.py.) -/
import Derived.Test.YtfcialleekfjmaaFlRNum
import Derived.Test.YtfcialleekfjmaaFlFlat
import Derived.Test.YtfcialleekfjmaaRefWord
namespace Go.Proofs.Ytfcialleekfjmaa.Fl
open Go.RowKit K At Wd
set_option linter.unusedVariables false
set_option linter.unusedSimpArgs false

theorem Rs.row {w : World} {M : Nat → Prop} {gx h n : Nat} {G : Nat → Prop} {L : List ByteArray} {O : List Int} {v : Value} (r : Rs w M gx h G L O) (hc : w.cell? ⟨gx, 1, none⟩ = some v) (hn : O.length = n) : w.ownsRow 0 49 1 v n (u64s O) := by
  subst hn
  obtain ⟨A, c, _, h1, _, h3, _, _⟩ := r.cells
  rw [h1] at hc
  injection hc with hc
  exact hc ▸ h3
theorem below_draw (w : World) : Below w.heap.size w w.drew := ⟨rfl, rfl, rfl, Nat.le_refl _, fun _ _ => rfl⟩
/-- The zeros behind the row. -/
theorem Rs.zeros {w0 w4 w5 : World} {M : Nat → Prop} {gx h n m b i : Nat} {G : Nat → Prop} {L : List ByteArray} {O : List Int} {A A' : Option Addr} {c c' : Nat} {x : Value} (hm : RMv w0 M gx h G L O w4) (hn : O.length = n) (hc : w4.cell? ⟨gx, 1, none⟩ = some (.slice A n c)) (hR : w5.ownsRow 0 49 1 (.slice A' (n + m) c') (n + m) (u64s O ++ List.replicate m (.int .u64 0))) (hg : w4.drew.grownBy w5 (Value.slice A n c).ownBlock) (hat : (Value.slice A' (n + m) c').ownBlock = (Value.slice A n c).ownBlock ∨ (Value.slice A' (n + m) c').ownBlock = some w4.drew.heap.size)
    (hb : ¬ M b) (hb0 : b < w0.heap.size) (hx : w4.cell? ⟨b, i, none⟩ = some x) :
    RMv w0 M gx h G L (O ++ List.replicate m 0) (w5.setCell ⟨gx, 1, none⟩ (.slice A' (n + m) c')) ∧ w5.cell? ⟨gx, 1, none⟩ = some (.slice A n c) ∧ w5.frozen? ⟨gx, 1, none⟩ = false ∧ w5.cell? ⟨b, i, none⟩ = some x := by
  obtain ⟨M4, hF, hs, hk⟩ := hm
  rw [u64s_zeros, ← u64s_append] at hR
  obtain ⟨h1, h2, h3, _, h5⟩ := (hF.below (below_draw w4)).push hn hc (Below.refl _ _) hg hR hat
  exact ⟨RMv.then_ hs hk (RMv.from_ (below_draw w4) h1), h2, h3, h5 b i x (fun h => by rcases hs b h with h | h; exact hb h; omega) hx⟩
/-- A word behind the row. -/
theorem Rs.word {w w3 : World} {M : Nat → Prop} {gx h n : Nat} {G : Nat → Prop} {L : List ByteArray} {O : List Int} {A A' : Option Addr} {c c' : Nat} {x : Int} {o : Obj} (r : Rs w M gx h G L O) (hn : O.length = n) (hc : w.cell? ⟨gx, 1, none⟩ = some (.slice A n c)) (hR : w3.ownsRow 0 49 1 (.slice A' (n + 1) c') (n + 1) (u64s O ++ [.int .u64 x])) (hg : (w.alloc o).grownBy w3 (Value.slice A n c).ownBlock) (hat : (Value.slice A' (n + 1) c').ownBlock = (Value.slice A n c).ownBlock ∨ (Value.slice A' (n + 1) c').ownBlock = some (w.alloc o).heap.size) :
    RMv w M gx h G L (O ++ [x]) (w3.setCell ⟨gx, 1, none⟩ (.slice A' (n + 1) c')) ∧ w3.cell? ⟨gx, 1, none⟩ = some (.slice A n c) ∧ w3.frozen? ⟨gx, 1, none⟩ = false ∧ (w3.setCell ⟨gx, 1, none⟩ (.slice A' (n + 1) c')).cell? ⟨gx, 1, none⟩ = some (.slice A' (n + 1) c') ∧ (∀ b i x, ¬ M b → w.cell? ⟨b, i, none⟩ = some x → w3.cell? ⟨b, i, none⟩ = some x) := by
  rw [show [Value.int .u64 x] = u64s [x] from rfl, ← u64s_append] at hR
  exact r.push hn hc (ballocs (Below.refl _ _) _) hg hR hat
theorem ret1_w {a b : Int} (h : a = b) : Ending.returned (.int .u64 a) = .returned (.int .u64 b) := by rw [h]
set_option maxRecDepth 100000 in
set_option maxHeartbeats 16000000 in
theorem rlay_leaf (k n : Int) (s : ByteArray) (hkw : (Lit.int .i64 k).wf = true) (hnw : (Lit.int .i64 n).wf = true) (h2 : k ≠ 2) (hbk : ¬ boxK k) (A : Option Addr) (c : Nat) (w : World) (M R G : Nat → Prop) (gx h : Nat) (L : List ByteArray) (O : List Int) (hF : Rs w M gx h G L O) (hts : TsAt w R A []) (hR : ∀ b, R b → b < w.heap.size ∧ ¬ M b) (hs : soundB (.mk k n s []) = true) (hat : ∀ y ∈ atoms (.mk k n s []), y ∈ L) (hO : (O.length : Int) + wds (.mk k n s []) ≤ 65537) :
    Calls Try.prog 50 #[.pointer (some ⟨gx, 0, none⟩), .agg #[.int .i64 k, .int .i64 n, .string s, .slice A 0 c]] w fun e w' => e = .returned (.int .u64 (ownW (ix L) (.mk k n s []) O.length)) ∧ RMv w M gx h G L (O ++ lay (ix L) (.mk k n s []) O.length) w' := by
  have hO2 : O.length ≤ 65537 := by have := (wds_range (.mk k n s [])).1; omega
  have hO0 : (0 : Int) ≤ (O.length : Int) := by omega
  have HO := Lib.hid hO; have HF := Lib.hid hF; have HR := Lib.hid hR; have HAT := Lib.hid hat
  have hB := Blk.new w 24 #[.int .i64 k, .int .i64 n, .string s, .slice A 0 c]
  have hb0 := ballocs (Below.refl w.heap.size w) (.cells #[.int .i64 k, .int .i64 n, .string s, .slice A 0 c] 24)
  have hF0 := hF.below hb0
  have hts0 := hts.under hb0 (fun b hb => (hR b hb).1)
  have HB0 := Lib.hid hb0
  have hM : ¬ M w.heap.size := fun h => by
    obtain ⟨v, _, _, _, _, _, h6⟩ := hF
    have := (h6 _ h).1; omega
  have HM := Lib.hid hM
  have hgl := hF.lt.1
  have hne : gx ≠ w.heap.size := by omega
  obtain ⟨Aw, cw, x0w, hcw, hfw, _, _, _⟩ := hF.cells
  have HP := Lib.hid (fun (w : World) => rpack_any k n hnw w)
  obtain ⟨i0, hi, hz0, hz1, hz2⟩ := info_parts infoW
  have HE := Lib.hid (show ownW (ix L) (.mk k n s []) O.length = packW k n from by rw [ownW_mk, if_neg h2, if_neg hbk])
  have HY := Lib.hid (show lay (ix L) (.mk k n s []) O.length = [] ∧ hd k n 0 = [] from ⟨by rw [lay_mk, if_neg hbk], by unfold hd; unfold boxK at hbk; rw [if_neg (by omega), if_neg (by omega)]⟩)
  have b2 : (k == 2) = false := by simpa using h2
  have b7 : (k == 7) = false := by unfold boxK at hbk; simp; omega
  have b5 : (k == 5) = false := by unfold boxK at hbk; simp; omega
  have b9 : (k == 9) = false := by unfold boxK at hbk; simp; omega
  clear hF hs hb0 hM hO hR hts hat h2 hbk hkw hnw
  go_enter Try.func50, Try.ntmps50
  go_wp2_with fail
  obtain ⟨w0, hw0⟩ : ∃ x, w.alloc (.cells #[.int .i64 k, .int .i64 n, .string s, .slice A 0 c] 24) = x := ⟨_, rfl⟩
  rw [hw0] at hB HB0 hF0 hts0 ⊢
  obtain ⟨A0, c0, x0, hc, hfz, hRR, hca, hcm⟩ := hF0.cells
  obtain ⟨p0, p1, p2, p3, _, _, _, _⟩ := hB.four
  have HF0 := Lib.hid hF0; have HTS := Lib.hid hts0; have HRR := Lib.hid hRR
  have hgl0 : gx < w0.heap.size := hF0.lt.1
  have hbl : w.heap.size < w0.heap.size := World.block_lt_of_cell? w0 _ p0
  clear hw0 hF0 hB hts0 hRR x0w hcw hfw
  have HM3 := Lib.hid (RMv.stay HF0.out)
  have h4c := hc; have b3 := p3; have b0 := p0
  refine Zed.begin (S := fun wx => wx.cell? ⟨gx, 1, none⟩ = some (.slice A0 O.length c0) ∧ wx.cell? ⟨w.heap.size, 3, none⟩ = some (.slice A 0 c)) (z := 11) (by kernel_rfl) ⟨h4c, b3⟩ (fun hHeld => ?_)
  refine Zed.take (i := 0) (oi := ⟨some 88, _, _, _, _, _⟩) (v := ?_) rfl (by kernel_rfl) (by kernel_rfl) (by kernel_rfl) (by kernel_rfl) (fun _ _ _ h => h) (Or.inl ⟨by rfl, ?_⟩) (by assumption) ?_
  rotate_left
  · intro wS hSw; (try dsimp only at hSw); go_simp; try with_reducible rfl
  try simp only [Act.put, List.setIfInBounds_toArray, List.set_cons_zero, List.set_cons_succ]
  refine Zed.take (i := 1) (oi := ⟨some 89, _, _, _, _, _⟩) (v := ?_) rfl (by kernel_rfl) (by kernel_rfl) (by kernel_rfl) (by kernel_rfl) (fun _ _ _ h => h) (Or.inl ⟨by rfl, ?_⟩) (by assumption) ?_
  rotate_left
  · intro wS hSw; (try dsimp only at hSw); go_simp; try with_reducible rfl
  try simp only [Act.put, List.setIfInBounds_toArray, List.set_cons_zero, List.set_cons_succ]
  refine Zed.take (i := 2) (oi := ⟨some 90, _, _, _, _, _⟩) (v := ?_) rfl (by kernel_rfl) (by kernel_rfl) (by kernel_rfl) (by kernel_rfl) (fun _ _ _ h => h) (Or.inl ⟨by rfl, ?_⟩) (by assumption) ?_
  rotate_left
  · intro wS hSw; (try dsimp only at hSw); go_simp; try with_reducible rfl
  try simp only [Act.put, List.setIfInBounds_toArray, List.set_cons_zero, List.set_cons_succ]
  refine Zed.take (i := 3) (oi := ⟨some 91, _, _, _, _, _⟩) (v := ?_) rfl (by kernel_rfl) (by kernel_rfl) (by kernel_rfl) (by kernel_rfl) (fun _ _ _ h => h) (Or.inl ⟨by rfl, ?_⟩) (by assumption) ?_
  rotate_left
  · intro wS hSw; (try dsimp only at hSw); go_simp; try with_reducible rfl
  try simp only [Act.put, List.setIfInBounds_toArray, List.set_cons_zero, List.set_cons_succ]
  refine Zed.take (i := 4) (oi := ⟨some 92, _, _, _, _, _⟩) (v := ?_) rfl (by kernel_rfl) (by kernel_rfl) (by kernel_rfl) (by kernel_rfl) (fun _ _ _ h => h) (Or.inl ⟨by rfl, ?_⟩) (by assumption) ?_
  rotate_left
  · intro wS hSw; (try dsimp only at hSw); go_simp; try with_reducible rfl
  try simp only [Act.put, List.setIfInBounds_toArray, List.set_cons_zero, List.set_cons_succ]
  refine Zed.take (i := 5) (oi := ⟨some 93, _, _, _, _, _⟩) (v := ?_) rfl (by kernel_rfl) (by kernel_rfl) (by kernel_rfl) (by kernel_rfl) (fun _ _ _ h => h) (Or.inl ⟨by rfl, ?_⟩) (by assumption) ?_
  rotate_left
  · intro wS hSw; (try dsimp only at hSw); go_simp; try with_reducible rfl
  try simp only [Act.put, List.setIfInBounds_toArray, List.set_cons_zero, List.set_cons_succ]
  refine Zed.take (i := 6) (oi := ⟨some 94, _, _, _, _, _⟩) (v := ?_) rfl (by kernel_rfl) (by kernel_rfl) (by kernel_rfl) (by kernel_rfl) (fun _ _ _ h => h) (Or.inl ⟨by rfl, ?_⟩) (by assumption) ?_
  rotate_left
  · intro wS hSw; (try dsimp only at hSw); go_simp; try with_reducible rfl
  try simp only [Act.put, List.setIfInBounds_toArray, List.set_cons_zero, List.set_cons_succ]
  refine Zed.take (i := 7) (oi := ⟨some 95, _, _, _, _, _⟩) (v := ?_) rfl (by kernel_rfl) (by kernel_rfl) (by kernel_rfl) (by kernel_rfl) (fun _ _ _ h => h) (Or.inl ⟨by rfl, ?_⟩) (by assumption) ?_
  rotate_left
  · intro wS hSw; (try dsimp only at hSw); go_simp; try with_reducible rfl
  try simp only [Act.put, List.setIfInBounds_toArray, List.set_cons_zero, List.set_cons_succ]
  refine Zed.ready (rs := [8]) (by kernel_rfl) (by simp) ?_
  refine Zeach.cons (o := ⟨some 96, _, _, _, _, _⟩) rfl (fun K hK => ?_) Zeach.nil
  have hRw : w0.drew.ownsRow 0 49 1 (.slice A0 O.length c0) O.length (u64s O) := by obtain ⟨M4, hF4, _, _⟩ := HM3.out; exact Rs.row (hF4.below (below_draw w0)) h4c (by simp)
  obtain ⟨v5, w5, run5, hR5, hg5, hat5⟩ := run_append_zeros (P := Try.prog) w0.drew 0 25 3 25 49 i0 _ (.int .u64 0) 8 Try.underlying25 Try.underlying3 hi hz0 hz1 hz2 rfl rfl (.slice A0 O.length c0) O.length _ hRw 0 (by unfold maxLen; omega) (by omega) (Nat.zero_le _)
  obtain ⟨A5, c5, rfl, _, _⟩ := ownsRow_form hR5
  obtain ⟨hm5, h5c, h5f, b5⟩ := Rs.zeros HM3.out (by simp) h4c hR5 hg5 hat5 HM.out hbl b3
  simp only [Nat.add_zero] at hm5
  have HM5 := Lib.hid hm5
  clear hm5 hR5 hg5 hat5 hRw
  refine step_append_run2 (.tmp 92) (.tmp 95) 25 3 _ _ _ run5 rfl rfl (by simp [Act.eval, Act.put]) (by simp [Act.eval, Act.put]) ?_
  refine hK.out _ _ ⟨h5c, b5⟩ (fun hHeld => ?_)
  clear hK K
  try simp only [Act.put, List.setIfInBounds_toArray, List.set_cons_zero, List.set_cons_succ]
  refine Zed.ready (rs := [9]) (by kernel_rfl) (by simp) ?_
  refine Zeach.cons (o := ⟨some 97, _, _, _, _, _⟩) rfl (fun K hK => ?_) Zeach.nil
  go_simp
  refine hK.out _ _ ⟨h5c, b5⟩ (fun hHeld => ?_)
  clear hK K
  try simp only [Act.put, List.setIfInBounds_toArray, List.set_cons_zero, List.set_cons_succ]
  refine Zed.take (i := 10) (oi := ⟨some 98, _, _, _, _, _⟩) (v := ?_) rfl (by kernel_rfl) (by kernel_rfl) (by kernel_rfl) (by kernel_rfl) (fun _ _ _ h => h) (Or.inl ⟨by rfl, ?_⟩) (by assumption) ?_
  rotate_left
  · intro wS hSw; (try dsimp only at hSw); go_simp; try with_reducible rfl
  try simp only [Act.put, List.setIfInBounds_toArray, List.set_cons_zero, List.set_cons_succ]
  refine Zed.ready (rs := [11]) (by kernel_rfl) (by simp) ?_
  refine Zeach.last (o := ⟨none, _, _, _, _, _⟩) rfl (fun K hK => ?_)
  go_simp
  refine hK.out _ _ ?_
  clear hK K
  try simp only [Act.put, List.setIfInBounds_toArray, List.set_cons_zero, List.set_cons_succ]
  refine Zed.done (by kernel_rfl) ?_ _
  obtain ⟨w6, hw6⟩ : ∃ x, w5.setCell ⟨gx, 1, none⟩ (.slice A5 (O.length) c5) = x := ⟨_, rfl⟩
  rw [hw6] at HM5 ⊢
  clear hw6 h5c h5f b5 HM3 b3 b0 h4c run5
  have HS0 := Lib.hid (show RMv w0 M gx h G L (mid (ix L) O k n [] 0) w6 from by
    rw [mid_zero, List.length_nil, HY.out.2, List.append_nil]
    exact HM5.out)
  clear HM5
  go_wp2_with fail
  go_loopw [12] (fun x wr => ∃ i : Nat, i ≤ 0 ∧ x = .int .i64 (i : Int) ∧ RMv w0 M gx h G L (mid (ix L) O k n [] i) wr) (fun x _ => 0 - (intOf x).toNat)
  case atStart => exact ⟨0, Nat.zero_le _, rfl, HS0.out⟩
  case round =>
    obtain ⟨i, hi, rfl, hm⟩ := hrel
    have HMR := Lib.hid hm
    have b3 := hm.at_ HM.out p3; have b0 := hm.at_ HM.out p0
    have hi0 : (0 : Int) ≤ (i : Int) := by omega
    obtain rfl : i = 0 := by omega
    clear hm
    go_wp2_with (first
      | (go_at_call 66; refine (HP.out _).mono ?_; rintro e w9 ⟨rfl, rfl⟩)
      | fail)
    go_ret
    have h1 := HMR.out
    rw [mid_zero, List.length_nil, HY.out.2, List.append_nil] at h1
    rw [HE.out, HY.out.1]
    exact ⟨rfl, RMv.from_ HB0.out h1⟩
set_option maxRecDepth 100000 in
set_option maxHeartbeats 16000000 in
theorem rlay_atom (s : ByteArray) (hsz : s.size ≤ maxLen) (A : Option Addr) (c : Nat) (w : World) (M R G : Nat → Prop) (gx h : Nat) (L : List ByteArray) (O : List Int) (hF : Rs w M gx h G L O) (hts : TsAt w R A []) (hR : ∀ b, R b → b < w.heap.size ∧ ¬ M b) (hs : soundB (.mk 2 0 s []) = true) (hat : ∀ y ∈ atoms (.mk 2 0 s []), y ∈ L) (hO : (O.length : Int) + wds (.mk 2 0 s []) ≤ 65537) :
    Calls Try.prog 50 #[.pointer (some ⟨gx, 0, none⟩), .agg #[.int .i64 2, .int .i64 0, .string s, .slice A 0 c]] w fun e w' => e = .returned (.int .u64 (ownW (ix L) (.mk 2 0 s []) O.length)) ∧ RMv w M gx h G L (O ++ lay (ix L) (.mk 2 0 s []) O.length) w' := by
  have hO2 : O.length ≤ 65537 := by have := (wds_range (.mk 2 0 s [])).1; omega
  have hO0 : (0 : Int) ≤ (O.length : Int) := by omega
  have HO := Lib.hid hO; have HF := Lib.hid hF; have HR := Lib.hid hR; have HAT := Lib.hid hat
  have hB := Blk.new w 24 #[.int .i64 2, .int .i64 0, .string s, .slice A 0 c]
  have hb0 := ballocs (Below.refl w.heap.size w) (.cells #[.int .i64 2, .int .i64 0, .string s, .slice A 0 c] 24)
  have hF0 := hF.below hb0
  have hts0 := hts.under hb0 (fun b hb => (hR b hb).1)
  have HB0 := Lib.hid hb0
  have hM : ¬ M w.heap.size := fun h => by
    obtain ⟨v, _, _, _, _, _, h6⟩ := hF
    have := (h6 _ h).1; omega
  have HM := Lib.hid hM
  have hgl := hF.lt.1
  have hne : gx ≠ w.heap.size := by omega
  obtain ⟨Aw, cw, x0w, hcw, hfw, _, _, _⟩ := hF.cells
  have hsL : s ∈ L := hat s (by rw [atoms_mk, if_pos rfl]; simp)
  have hfn : rfN L s = ix L s := by unfold rfN ix; rw [if_pos hsL]
  obtain ⟨z, hz⟩ : ∃ z, ix L s = z := ⟨_, rfl⟩
  have hL4 : L.length ≤ 4096 := by obtain ⟨v, hT, _⟩ := hF; obtain ⟨_, _, _, _, _, _, _, h4, _⟩ := hT; exact h4
  have hz2 : 0 ≤ z ∧ z ≤ 4096 := by rw [← hz]; unfold ix; have := idx_le L s; omega
  have HP := Lib.hid (fun (w : World) => rpack_any 2 z (WalkArith.wf_i64 (by omega)) w)
  have HE := Lib.hid (show ownW (ix L) (.mk 2 0 s []) O.length = packW 2 z from by rw [ownW_mk, if_pos rfl, hz])
  have HFI := Lib.hid (fun (wx : World) (hT : RTab wx G h L) => (show Calls Try.prog 62 #[.pointer (some ⟨h, 0, none⟩), .string s] wx (fun e w' => e = .returned (.int .i64 z) ∧ wx = w') from by have h := rfind_any h L s wx G hT hsz; rw [hfn, hz] at h; exact h))
  have HT0 := Lib.hid (show RTab (w.alloc (.cells #[.int .i64 2, .int .i64 0, .string s, .slice A 0 c] 24)) G h L from by obtain ⟨v, hT, _⟩ := hF0; exact hT)
  have HQ := Lib.hid (fun n => quietL (n := n) (HFI.out ((w.alloc (.cells #[.int .i64 2, .int .i64 0, .string s, .slice A 0 c] 24)).drewN n) (show RTab ((w.alloc (.cells #[.int .i64 2, .int .i64 0, .string s, .slice A 0 c] 24)).drewN n) G h L from HT0.out)))
  clear hsL hfn hz hL4 hz2
  obtain ⟨i0, hi, hz0, hz1, hz2⟩ := info_parts infoW
  have HY := Lib.hid (show lay (ix L) (.mk 2 0 s []) O.length = [] ∧ hd 2 0 0 = [] from ⟨by rw [lay_mk, if_neg (by unfold boxK; omega)], rfl⟩)
  clear hF hs hb0 hM hO hR hts hat
  go_enter Try.func50, Try.ntmps50
  go_wp2_with fail
  obtain ⟨w0, hw0⟩ : ∃ x, w.alloc (.cells #[.int .i64 2, .int .i64 0, .string s, .slice A 0 c] 24) = x := ⟨_, rfl⟩
  rw [hw0] at hB HB0 hF0 hts0 HT0 HQ ⊢
  obtain ⟨A0, c0, x0, hc, hfz, hRR, hca, hcm⟩ := hF0.cells
  obtain ⟨p0, p1, p2, p3, _, _, _, _⟩ := hB.four
  have HF0 := Lib.hid hF0; have HTS := Lib.hid hts0; have HRR := Lib.hid hRR
  have hgl0 : gx < w0.heap.size := hF0.lt.1
  have hbl : w.heap.size < w0.heap.size := World.block_lt_of_cell? w0 _ p0
  clear hw0 hF0 hB hts0 hRR x0w hcw hfw
  go_quiet (first | (go_at_call 62; exact HQ.out _))
  go_wp2_with fail
  have hbq := fdrewN (Below.refl w0.heap.size w0) nq
  obtain ⟨w4, hw4⟩ : ∃ x, w0.drewN nq = x := ⟨_, rfl⟩
  have h4c : w4.cell? ⟨gx, 1, none⟩ = some (.slice A0 O.length c0) := by rw [← hw4]; exact hc
  have h40 : w4.cell? ⟨gx, 0, none⟩ = some (.pointer (some ⟨h, 0, none⟩)) := by rw [← hw4]; exact x0
  have b3 : w4.cell? ⟨w.heap.size, 3, none⟩ = some (.slice A 0 c) := by rw [← hw4]; exact p3
  have b0 : w4.cell? ⟨w.heap.size, 0, none⟩ = some (.int .i64 2) := by rw [← hw4]; exact p0
  rw [hw4] at hbq ⊢
  have HM3 := Lib.hid (RMv.from_ hbq (RMv.stay (HF0.out.below hbq)))
  clear hw4 hbq HQ HFI HT0
  refine Zed.begin (S := fun wx => wx.cell? ⟨gx, 1, none⟩ = some (.slice A0 O.length c0) ∧ wx.cell? ⟨w.heap.size, 3, none⟩ = some (.slice A 0 c)) (z := 11) (by kernel_rfl) ⟨h4c, b3⟩ (fun hHeld => ?_)
  refine Zed.take (i := 0) (oi := ⟨some 88, _, _, _, _, _⟩) (v := ?_) rfl (by kernel_rfl) (by kernel_rfl) (by kernel_rfl) (by kernel_rfl) (fun _ _ _ h => h) (Or.inl ⟨by rfl, ?_⟩) (by assumption) ?_
  rotate_left
  · intro wS hSw; (try dsimp only at hSw); go_simp; try with_reducible rfl
  try simp only [Act.put, List.setIfInBounds_toArray, List.set_cons_zero, List.set_cons_succ]
  refine Zed.take (i := 1) (oi := ⟨some 89, _, _, _, _, _⟩) (v := ?_) rfl (by kernel_rfl) (by kernel_rfl) (by kernel_rfl) (by kernel_rfl) (fun _ _ _ h => h) (Or.inl ⟨by rfl, ?_⟩) (by assumption) ?_
  rotate_left
  · intro wS hSw; (try dsimp only at hSw); go_simp; try with_reducible rfl
  try simp only [Act.put, List.setIfInBounds_toArray, List.set_cons_zero, List.set_cons_succ]
  refine Zed.take (i := 2) (oi := ⟨some 90, _, _, _, _, _⟩) (v := ?_) rfl (by kernel_rfl) (by kernel_rfl) (by kernel_rfl) (by kernel_rfl) (fun _ _ _ h => h) (Or.inl ⟨by rfl, ?_⟩) (by assumption) ?_
  rotate_left
  · intro wS hSw; (try dsimp only at hSw); go_simp; try with_reducible rfl
  try simp only [Act.put, List.setIfInBounds_toArray, List.set_cons_zero, List.set_cons_succ]
  refine Zed.take (i := 3) (oi := ⟨some 91, _, _, _, _, _⟩) (v := ?_) rfl (by kernel_rfl) (by kernel_rfl) (by kernel_rfl) (by kernel_rfl) (fun _ _ _ h => h) (Or.inl ⟨by rfl, ?_⟩) (by assumption) ?_
  rotate_left
  · intro wS hSw; (try dsimp only at hSw); go_simp; try with_reducible rfl
  try simp only [Act.put, List.setIfInBounds_toArray, List.set_cons_zero, List.set_cons_succ]
  refine Zed.take (i := 4) (oi := ⟨some 92, _, _, _, _, _⟩) (v := ?_) rfl (by kernel_rfl) (by kernel_rfl) (by kernel_rfl) (by kernel_rfl) (fun _ _ _ h => h) (Or.inl ⟨by rfl, ?_⟩) (by assumption) ?_
  rotate_left
  · intro wS hSw; (try dsimp only at hSw); go_simp; try with_reducible rfl
  try simp only [Act.put, List.setIfInBounds_toArray, List.set_cons_zero, List.set_cons_succ]
  refine Zed.take (i := 5) (oi := ⟨some 93, _, _, _, _, _⟩) (v := ?_) rfl (by kernel_rfl) (by kernel_rfl) (by kernel_rfl) (by kernel_rfl) (fun _ _ _ h => h) (Or.inl ⟨by rfl, ?_⟩) (by assumption) ?_
  rotate_left
  · intro wS hSw; (try dsimp only at hSw); go_simp; try with_reducible rfl
  try simp only [Act.put, List.setIfInBounds_toArray, List.set_cons_zero, List.set_cons_succ]
  refine Zed.take (i := 6) (oi := ⟨some 94, _, _, _, _, _⟩) (v := ?_) rfl (by kernel_rfl) (by kernel_rfl) (by kernel_rfl) (by kernel_rfl) (fun _ _ _ h => h) (Or.inl ⟨by rfl, ?_⟩) (by assumption) ?_
  rotate_left
  · intro wS hSw; (try dsimp only at hSw); go_simp; try with_reducible rfl
  try simp only [Act.put, List.setIfInBounds_toArray, List.set_cons_zero, List.set_cons_succ]
  refine Zed.take (i := 7) (oi := ⟨some 95, _, _, _, _, _⟩) (v := ?_) rfl (by kernel_rfl) (by kernel_rfl) (by kernel_rfl) (by kernel_rfl) (fun _ _ _ h => h) (Or.inl ⟨by rfl, ?_⟩) (by assumption) ?_
  rotate_left
  · intro wS hSw; (try dsimp only at hSw); go_simp; try with_reducible rfl
  try simp only [Act.put, List.setIfInBounds_toArray, List.set_cons_zero, List.set_cons_succ]
  refine Zed.ready (rs := [8]) (by kernel_rfl) (by simp) ?_
  refine Zeach.cons (o := ⟨some 96, _, _, _, _, _⟩) rfl (fun K hK => ?_) Zeach.nil
  have hRw : w4.drew.ownsRow 0 49 1 (.slice A0 O.length c0) O.length (u64s O) := by obtain ⟨M4, hF4, _, _⟩ := HM3.out; exact Rs.row (hF4.below (below_draw w4)) h4c (by simp)
  obtain ⟨v5, w5, run5, hR5, hg5, hat5⟩ := run_append_zeros (P := Try.prog) w4.drew 0 25 3 25 49 i0 _ (.int .u64 0) 8 Try.underlying25 Try.underlying3 hi hz0 hz1 hz2 rfl rfl (.slice A0 O.length c0) O.length _ hRw 0 (by unfold maxLen; omega) (by omega) (Nat.zero_le _)
  obtain ⟨A5, c5, rfl, _, _⟩ := ownsRow_form hR5
  obtain ⟨hm5, h5c, h5f, b5⟩ := Rs.zeros HM3.out (by simp) h4c hR5 hg5 hat5 HM.out hbl b3
  simp only [Nat.add_zero] at hm5
  have HM5 := Lib.hid hm5
  clear hm5 hR5 hg5 hat5 hRw
  refine step_append_run2 (.tmp 92) (.tmp 95) 25 3 _ _ _ run5 rfl rfl (by simp [Act.eval, Act.put]) (by simp [Act.eval, Act.put]) ?_
  refine hK.out _ _ ⟨h5c, b5⟩ (fun hHeld => ?_)
  clear hK K
  try simp only [Act.put, List.setIfInBounds_toArray, List.set_cons_zero, List.set_cons_succ]
  refine Zed.ready (rs := [9]) (by kernel_rfl) (by simp) ?_
  refine Zeach.cons (o := ⟨some 97, _, _, _, _, _⟩) rfl (fun K hK => ?_) Zeach.nil
  go_simp
  refine hK.out _ _ ⟨h5c, b5⟩ (fun hHeld => ?_)
  clear hK K
  try simp only [Act.put, List.setIfInBounds_toArray, List.set_cons_zero, List.set_cons_succ]
  refine Zed.take (i := 10) (oi := ⟨some 98, _, _, _, _, _⟩) (v := ?_) rfl (by kernel_rfl) (by kernel_rfl) (by kernel_rfl) (by kernel_rfl) (fun _ _ _ h => h) (Or.inl ⟨by rfl, ?_⟩) (by assumption) ?_
  rotate_left
  · intro wS hSw; (try dsimp only at hSw); go_simp; try with_reducible rfl
  try simp only [Act.put, List.setIfInBounds_toArray, List.set_cons_zero, List.set_cons_succ]
  refine Zed.ready (rs := [11]) (by kernel_rfl) (by simp) ?_
  refine Zeach.last (o := ⟨none, _, _, _, _, _⟩) rfl (fun K hK => ?_)
  go_simp
  refine hK.out _ _ ?_
  clear hK K
  try simp only [Act.put, List.setIfInBounds_toArray, List.set_cons_zero, List.set_cons_succ]
  refine Zed.done (by kernel_rfl) ?_ _
  obtain ⟨w6, hw6⟩ : ∃ x, w5.setCell ⟨gx, 1, none⟩ (.slice A5 (O.length) c5) = x := ⟨_, rfl⟩
  rw [hw6] at HM5 ⊢
  clear hw6 h5c h5f b5 HM3 b3 b0 h4c run5
  have HS0 := Lib.hid (show RMv w0 M gx h G L (mid (ix L) O 2 0 [] 0) w6 from by
    rw [mid_zero, List.length_nil, HY.out.2, List.append_nil]
    exact HM5.out)
  clear HM5
  go_wp2_with fail
  go_loopw [12] (fun x wr => ∃ i : Nat, i ≤ 0 ∧ x = .int .i64 (i : Int) ∧ RMv w0 M gx h G L (mid (ix L) O 2 0 [] i) wr) (fun x _ => 0 - (intOf x).toNat)
  case atStart => exact ⟨0, Nat.zero_le _, rfl, HS0.out⟩
  case round =>
    obtain ⟨i, hi, rfl, hm⟩ := hrel
    have HMR := Lib.hid hm
    have b3 := hm.at_ HM.out p3; have b0 := hm.at_ HM.out p0
    have hi0 : (0 : Int) ≤ (i : Int) := by omega
    obtain rfl : i = 0 := by omega
    clear hm
    go_wp2_with (first
      | (go_at_call 66; refine (HP.out _).mono ?_; rintro e w9 ⟨rfl, rfl⟩)
      | fail)
    go_ret
    have h1 := HMR.out
    rw [mid_zero, List.length_nil, HY.out.2, List.append_nil] at h1
    rw [HE.out, HY.out.1]
    exact ⟨rfl, RMv.from_ HB0.out h1⟩
set_option maxRecDepth 100000 in
set_option maxHeartbeats 16000000 in
theorem rlay_7 (l : List Tm) (ih : ∀ u ∈ l, RLayC u) (hsl : ∀ u ∈ l, sndL (subs u) = true) (A : Option Addr) (c : Nat) (w : World) (M R G : Nat → Prop) (gx h : Nat) (L : List ByteArray) (O : List Int) (hF : Rs w M gx h G L O) (hts : TsAt w R A l) (hR : ∀ b, R b → b < w.heap.size ∧ ¬ M b) (hs : soundB (.mk 7 0 ⟨#[]⟩ l) = true) (hat : ∀ y ∈ atoms (.mk 7 0 ⟨#[]⟩ l), y ∈ L) (hO : (O.length : Int) + wds (.mk 7 0 ⟨#[]⟩ l) ≤ 65537) :
    Calls Try.prog 50 #[.pointer (some ⟨gx, 0, none⟩), .agg #[.int .i64 7, .int .i64 0, .string ⟨#[]⟩, .slice A l.length c]] w fun e w' => e = .returned (.int .u64 (ownW (ix L) (.mk 7 0 ⟨#[]⟩ l) O.length)) ∧ RMv w M gx h G L (O ++ lay (ix L) (.mk 7 0 ⟨#[]⟩ l) O.length) w' := by
  have hlen : l.length ≤ 64 := by have h := (soundB_7 _ _ _).1 hs; omega
  have hO2 : O.length ≤ 65537 := by have := (wds_range (.mk 7 0 ⟨#[]⟩ l)).1; omega
  have hO0 : (0 : Int) ≤ (O.length : Int) := by omega
  have HO := Lib.hid hO; have HF := Lib.hid hF; have HR := Lib.hid hR; have HAT := Lib.hid hat
  have HIH := Lib.hid ih; have HSL := Lib.hid hsl
  have hB := Blk.new w 24 #[.int .i64 7, .int .i64 0, .string ⟨#[]⟩, .slice A l.length c]
  have hb0 := ballocs (Below.refl w.heap.size w) (.cells #[.int .i64 7, .int .i64 0, .string ⟨#[]⟩, .slice A l.length c] 24)
  have hF0 := hF.below hb0
  have hts0 := hts.under hb0 (fun b hb => (hR b hb).1)
  have HB0 := Lib.hid hb0
  have hM : ¬ M w.heap.size := fun h => by
    obtain ⟨v, _, _, _, _, _, h6⟩ := hF
    have := (h6 _ h).1; omega
  have HM := Lib.hid hM
  have hgl := hF.lt.1
  have hne : gx ≠ w.heap.size := by omega
  obtain ⟨Aw, cw, x0w, hcw, hfw, _, _, _⟩ := hF.cells
  have HPH := Lib.hid (fun (w : World) => rpack_any 10 (l.length : Int) (WalkArith.wf_i64 (by omega)) w)
  have HP := Lib.hid (fun (w : World) => rpack_any 7 (O.length : Int) (WalkArith.wf_i64 (by omega)) w)
  obtain ⟨i0, hi, hz0, hz1, hz2⟩ := info_parts infoW
  clear hF hs hb0 hM hO hR hts hat ih hsl
  go_enter Try.func50, Try.ntmps50
  go_wp2_with fail
  obtain ⟨w0, hw0⟩ : ∃ x, w.alloc (.cells #[.int .i64 7, .int .i64 0, .string ⟨#[]⟩, .slice A l.length c] 24) = x := ⟨_, rfl⟩
  rw [hw0] at hB HB0 hF0 hts0 ⊢
  obtain ⟨A0, c0, x0, hc, hfz, hRR, hca, hcm⟩ := hF0.cells
  obtain ⟨p0, p1, p2, p3, _, _, _, _⟩ := hB.four
  have HF0 := Lib.hid hF0; have HTS := Lib.hid hts0; have HRR := Lib.hid hRR
  have hgl0 : gx < w0.heap.size := hF0.lt.1
  have hbl : w.heap.size < w0.heap.size := World.block_lt_of_cell? w0 _ p0
  clear hw0 hF0 hB hts0 hRR x0w hcw hfw
  go_wp2_with (first
    | (go_at_call 66; refine (HPH.out _).mono ?_; rintro e w1 ⟨rfl, hw1⟩; obtain rfl : w0 = w1 := hw1.symm)
    | (at_builtin; refine wpList_append_own_at _ rfl _ _ 25 rfl 0 49 i0 _ 1 8 Try.underlying25 hi hz0 hz1 hz2 rfl (by decide) (.slice A0 O.length c0) O.length (u64s O) rfl (HRR.out.alloc _) ⟨w0.heap.size, 0, none⟩ 1 1 [.int .u64 (packW 10 (l.length : Int))] rfl rfl (cell_one_new _ _ _) (by simp [Value.oneCell']) (by unfold maxLen; omega) (by omega) (Nat.zero_le _) ?_; intro v3 w3 hR3 hg3 _ hat3
       obtain ⟨A3, c3, rfl, hA3, hC3⟩ := ownsRow_form hR3
       obtain ⟨hm3, h3c, h3f, h4c, hk3⟩ := HF0.out.word rfl hc hR3 hg3 hat3
       have e0 := hk3 _ 0 _ HM.out p0; have e1 := hk3 _ 1 _ HM.out p1; have e3 := hk3 _ 3 _ HM.out p3
       have hgl3 : gx < w3.heap.size := World.block_lt_of_cell? w3 ⟨gx, 1, none⟩ h3c
       have HM3 := Lib.hid hm3; clear hm3 hR3 hg3 hat3 hk3)
    | fail)
  have b3 := (far_cell w3 ⟨gx, 1, none⟩ ⟨w.heap.size, 3, none⟩ (.slice A3 (O.length + 1) c3) hne).trans e3
  have b0 := (far_cell w3 ⟨gx, 1, none⟩ ⟨w.heap.size, 0, none⟩ (.slice A3 (O.length + 1) c3) hne).trans e0
  obtain ⟨w4, hw4⟩ : ∃ x, w3.setCell ⟨gx, 1, none⟩ (.slice A3 (O.length + 1) c3) = x := ⟨_, rfl⟩
  rw [hw4] at HM3 h4c b3 b0 ⊢
  clear hw4 h3c h3f e0 e1 e3
  refine Zed.begin (S := fun wx => wx.cell? ⟨gx, 1, none⟩ = some (.slice A3 (O.length + 1) c3) ∧ wx.cell? ⟨w.heap.size, 3, none⟩ = some (.slice A l.length c)) (z := 11) (by kernel_rfl) ⟨h4c, b3⟩ (fun hHeld => ?_)
  refine Zed.take (i := 0) (oi := ⟨some 88, _, _, _, _, _⟩) (v := ?_) rfl (by kernel_rfl) (by kernel_rfl) (by kernel_rfl) (by kernel_rfl) (fun _ _ _ h => h) (Or.inl ⟨by rfl, ?_⟩) (by assumption) ?_
  rotate_left
  · intro wS hSw; (try dsimp only at hSw); go_simp; try with_reducible rfl
  try simp only [Act.put, List.setIfInBounds_toArray, List.set_cons_zero, List.set_cons_succ]
  refine Zed.take (i := 1) (oi := ⟨some 89, _, _, _, _, _⟩) (v := ?_) rfl (by kernel_rfl) (by kernel_rfl) (by kernel_rfl) (by kernel_rfl) (fun _ _ _ h => h) (Or.inl ⟨by rfl, ?_⟩) (by assumption) ?_
  rotate_left
  · intro wS hSw; (try dsimp only at hSw); go_simp; try with_reducible rfl
  try simp only [Act.put, List.setIfInBounds_toArray, List.set_cons_zero, List.set_cons_succ]
  refine Zed.take (i := 2) (oi := ⟨some 90, _, _, _, _, _⟩) (v := ?_) rfl (by kernel_rfl) (by kernel_rfl) (by kernel_rfl) (by kernel_rfl) (fun _ _ _ h => h) (Or.inl ⟨by rfl, ?_⟩) (by assumption) ?_
  rotate_left
  · intro wS hSw; (try dsimp only at hSw); go_simp; try with_reducible rfl
  try simp only [Act.put, List.setIfInBounds_toArray, List.set_cons_zero, List.set_cons_succ]
  refine Zed.take (i := 3) (oi := ⟨some 91, _, _, _, _, _⟩) (v := ?_) rfl (by kernel_rfl) (by kernel_rfl) (by kernel_rfl) (by kernel_rfl) (fun _ _ _ h => h) (Or.inl ⟨by rfl, ?_⟩) (by assumption) ?_
  rotate_left
  · intro wS hSw; (try dsimp only at hSw); go_simp; try with_reducible rfl
  try simp only [Act.put, List.setIfInBounds_toArray, List.set_cons_zero, List.set_cons_succ]
  refine Zed.take (i := 4) (oi := ⟨some 92, _, _, _, _, _⟩) (v := ?_) rfl (by kernel_rfl) (by kernel_rfl) (by kernel_rfl) (by kernel_rfl) (fun _ _ _ h => h) (Or.inl ⟨by rfl, ?_⟩) (by assumption) ?_
  rotate_left
  · intro wS hSw; (try dsimp only at hSw); go_simp; try with_reducible rfl
  try simp only [Act.put, List.setIfInBounds_toArray, List.set_cons_zero, List.set_cons_succ]
  refine Zed.take (i := 5) (oi := ⟨some 93, _, _, _, _, _⟩) (v := ?_) rfl (by kernel_rfl) (by kernel_rfl) (by kernel_rfl) (by kernel_rfl) (fun _ _ _ h => h) (Or.inl ⟨by rfl, ?_⟩) (by assumption) ?_
  rotate_left
  · intro wS hSw; (try dsimp only at hSw); go_simp; try with_reducible rfl
  try simp only [Act.put, List.setIfInBounds_toArray, List.set_cons_zero, List.set_cons_succ]
  refine Zed.take (i := 6) (oi := ⟨some 94, _, _, _, _, _⟩) (v := ?_) rfl (by kernel_rfl) (by kernel_rfl) (by kernel_rfl) (by kernel_rfl) (fun _ _ _ h => h) (Or.inl ⟨by rfl, ?_⟩) (by assumption) ?_
  rotate_left
  · intro wS hSw; (try dsimp only at hSw); go_simp; try with_reducible rfl
  try simp only [Act.put, List.setIfInBounds_toArray, List.set_cons_zero, List.set_cons_succ]
  refine Zed.take (i := 7) (oi := ⟨some 95, _, _, _, _, _⟩) (v := ?_) rfl (by kernel_rfl) (by kernel_rfl) (by kernel_rfl) (by kernel_rfl) (fun _ _ _ h => h) (Or.inl ⟨by rfl, ?_⟩) (by assumption) ?_
  rotate_left
  · intro wS hSw; (try dsimp only at hSw); go_simp; try with_reducible rfl
  try simp only [Act.put, List.setIfInBounds_toArray, List.set_cons_zero, List.set_cons_succ]
  refine Zed.ready (rs := [8]) (by kernel_rfl) (by simp) ?_
  refine Zeach.cons (o := ⟨some 96, _, _, _, _, _⟩) rfl (fun K hK => ?_) Zeach.nil
  have hRw : w4.drew.ownsRow 0 49 1 (.slice A3 (O.length + 1) c3) (O.length + 1) (u64s (O ++ [packW 10 (l.length : Int)])) := by obtain ⟨M4, hF4, _, _⟩ := HM3.out; exact Rs.row (hF4.below (below_draw w4)) h4c (by simp)
  obtain ⟨v5, w5, run5, hR5, hg5, hat5⟩ := run_append_zeros (P := Try.prog) w4.drew 0 25 3 25 49 i0 _ (.int .u64 0) 8 Try.underlying25 Try.underlying3 hi hz0 hz1 hz2 rfl rfl (.slice A3 (O.length + 1) c3) (O.length + 1) _ hRw l.length (by unfold maxLen; omega) (by omega) (Nat.zero_le _)
  obtain ⟨A5, c5, rfl, _, _⟩ := ownsRow_form hR5
  obtain ⟨hm5, h5c, h5f, b5⟩ := Rs.zeros HM3.out (by simp) h4c hR5 hg5 hat5 HM.out hbl b3
  have HM5 := Lib.hid hm5
  clear hm5 hR5 hg5 hat5 hRw
  refine step_append_run2 (.tmp 92) (.tmp 95) 25 3 _ _ _ run5 rfl rfl (by simp [Act.eval, Act.put]) (by simp [Act.eval, Act.put]) ?_
  refine hK.out _ _ ⟨h5c, b5⟩ (fun hHeld => ?_)
  clear hK K
  try simp only [Act.put, List.setIfInBounds_toArray, List.set_cons_zero, List.set_cons_succ]
  refine Zed.ready (rs := [9]) (by kernel_rfl) (by simp) ?_
  refine Zeach.cons (o := ⟨some 97, _, _, _, _, _⟩) rfl (fun K hK => ?_) Zeach.nil
  go_simp
  refine hK.out _ _ ⟨h5c, b5⟩ (fun hHeld => ?_)
  clear hK K
  try simp only [Act.put, List.setIfInBounds_toArray, List.set_cons_zero, List.set_cons_succ]
  refine Zed.take (i := 10) (oi := ⟨some 98, _, _, _, _, _⟩) (v := ?_) rfl (by kernel_rfl) (by kernel_rfl) (by kernel_rfl) (by kernel_rfl) (fun _ _ _ h => h) (Or.inl ⟨by rfl, ?_⟩) (by assumption) ?_
  rotate_left
  · intro wS hSw; (try dsimp only at hSw); go_simp; try with_reducible rfl
  try simp only [Act.put, List.setIfInBounds_toArray, List.set_cons_zero, List.set_cons_succ]
  refine Zed.ready (rs := [11]) (by kernel_rfl) (by simp) ?_
  refine Zeach.last (o := ⟨none, _, _, _, _, _⟩) rfl (fun K hK => ?_)
  go_simp
  refine hK.out _ _ ?_
  clear hK K
  try simp only [Act.put, List.setIfInBounds_toArray, List.set_cons_zero, List.set_cons_succ]
  refine Zed.done (by kernel_rfl) ?_ _
  obtain ⟨w6, hw6⟩ : ∃ x, w5.setCell ⟨gx, 1, none⟩ (.slice A5 (O.length + 1 + l.length) c5) = x := ⟨_, rfl⟩
  rw [hw6] at HM5 ⊢
  clear hw6 h5c h5f b5 HM3 b3 b0 h4c run5
  have HS0 := Lib.hid (show RMv w0 M gx h G L (mid (ix L) O 7 0 l 0) w6 from by
    rw [mid_zero]
    exact HM5.out)
  clear HM5
  go_wp2_with fail
  go_loopw [12] (fun x wr => ∃ i : Nat, i ≤ l.length ∧ x = .int .i64 (i : Int) ∧ RMv w0 M gx h G L (mid (ix L) O 7 0 l i) wr) (fun x _ => l.length - (intOf x).toNat)
  case atStart => exact ⟨0, Nat.zero_le _, rfl, HS0.out⟩
  case round =>
    obtain ⟨i, hi, rfl, hm⟩ := hrel
    have HMR := Lib.hid hm
    have b3 := hm.at_ HM.out p3; have b0 := hm.at_ HM.out p0
    have hi0 : (0 : Int) ≤ (i : Int) := by omega
    by_cases hlt : i < l.length
    · obtain ⟨u, hu⟩ : ∃ u, l[i]? = some u := ⟨_, List.getElem?_eq_getElem hlt⟩
      obtain ⟨M9, hF9, hs9, hk9⟩ := hm
      have hG9 : ∀ b, R b → b < wr.heap.size ∧ ¬ M9 b := fun b hb => by
        have h1 := HR.out b hb; have h2 := HB0.out.size; have h3 := hk9.size
        refine ⟨by omega, fun hm => ?_⟩
        rcases hs9 b hm with h | h; exact h1.2 h; omega
      have hts9 := HTS.out.keepF hk9 (fun b hb => by have := HR.out b hb; have := HB0.out.size; omega) (fun b hb => (HR.out b hb).2)
      obtain ⟨bb, o, A1, c1, rfl, hb1, d0, d1, d2, d3, ok1, hts1⟩ := hts9.at_ hu
      have HBD := Lib.hid (mid_bound (ix L) O 7 0 ⟨#[]⟩ (by unfold boxK; omega) hu)
      have HS9 := Lib.hid hs9; have HK9 := Lib.hid hk9; have HU := Lib.hid hu
      have HC := Lib.hid (HIH.out u (List.mem_of_getElem? hu) _ wr M9 R G gx h L (mid (ix L) O 7 0 l i) hF9 (TAt.of ok1 hts1) hG9 (HSL.out u (List.mem_of_getElem? hu)) (fun s hs => HAT.out s (by rw [atoms_mk, if_neg (by decide)]; exact atomsL_mem (List.mem_of_getElem? hu) hs)) (by have h1 := HBD.out; have h2 := HO.out; omega))
      unfold tv at HC
      have hil : (i : Int) < (l.length : Int) := by omega
      clear hF9 hs9 hk9 hG9 hts9 hts1 ok1 hu
      go_wp2_with fail
      refine HC.out.mono ?_
      rintro e w7 ⟨rfl, hm7⟩
      obtain ⟨M10, hF10, hs10, hk10⟩ := hm7
      obtain ⟨N, hN⟩ : ∃ N, (mid (ix L) O 7 0 l i ++ lay (ix L) u (mid (ix L) O 7 0 l i).length).length = N := ⟨_, rfl⟩
      have hiN : O.length + 1 + i < N := by
        rw [← hN, List.length_append, mid_len _ _ _ _ _ (by omega)]
        have : (hd 7 0 l.length).length = 1 := rfl
        omega
      obtain ⟨r, cr, hcr, hcr1, hcr2, ⟨x9, hx9⟩, hfz9, hst⟩ := hF10.store (by rw [hN]; exact hiN)
      obtain ⟨_, _, hx0, _, _, _, _, _⟩ := hF10.cells
      rw [hN] at hcr hcr1
      have hiN2 : (O.length : Int) + 1 + (i : Int) < (N : Int) := by omega
      have HST := Lib.hid hst; have HS10 := Lib.hid hs10; have HK10 := Lib.hid hk10
      clear hF10 hst hN hs10 hk10 b3 b0
      go_wp2_with fail
      refine ⟨⟨i + 1, by omega, by go_num, ?_⟩, by simp [intOf]; omega⟩
      have hms := mid_step (f := ix L) (f' := ix L) O 7 0 HU.out (fun s hs => rfl)
      rw [← hms]
      exact RMv.then_ HS9.out HK9.out (RMv.then_ HS10.out HK10.out (HST.out _))
    · obtain rfl : i = l.length := by omega
      clear hm
      go_wp2_with (first
        | (go_at_call 66; refine (HP.out _).mono ?_; rintro e w9 ⟨rfl, rfl⟩)
        | fail)
      go_ret
      have h1 := HMR.out
      rw [mid_end _ O 7 0 ⟨#[]⟩ l (by unfold boxK; omega)] at h1
      exact ⟨ret1_w (by rw [ownW_mk, if_neg (by decide), if_pos (by unfold boxK; omega)]), RMv.from_ HB0.out h1⟩
set_option maxRecDepth 100000 in
set_option maxHeartbeats 16000000 in
theorem rlay_5 (n : Int) (l : List Tm) (ih : ∀ u ∈ l, RLayC u) (hsl : ∀ u ∈ l, sndL (subs u) = true) (A : Option Addr) (c : Nat) (w : World) (M R G : Nat → Prop) (gx h : Nat) (L : List ByteArray) (O : List Int) (hF : Rs w M gx h G L O) (hts : TsAt w R A l) (hR : ∀ b, R b → b < w.heap.size ∧ ¬ M b) (hs : soundB (.mk 5 n ⟨#[]⟩ l) = true) (hat : ∀ y ∈ atoms (.mk 5 n ⟨#[]⟩ l), y ∈ L) (hO : (O.length : Int) + wds (.mk 5 n ⟨#[]⟩ l) ≤ 65537) :
    Calls Try.prog 50 #[.pointer (some ⟨gx, 0, none⟩), .agg #[.int .i64 5, .int .i64 n, .string ⟨#[]⟩, .slice A l.length c]] w fun e w' => e = .returned (.int .u64 (ownW (ix L) (.mk 5 n ⟨#[]⟩ l) O.length)) ∧ RMv w M gx h G L (O ++ lay (ix L) (.mk 5 n ⟨#[]⟩ l) O.length) w' := by
  have hlen : l.length ≤ 64 := by have h := (soundB_5 _ _ _).1 hs; omega
  have hn : 0 ≤ n ∧ n ≤ 1073741824 := by have h := (soundB_5 _ _ _).1 hs; omega
  have hO2 : O.length ≤ 65537 := by have := (wds_range (.mk 5 n ⟨#[]⟩ l)).1; omega
  have hO0 : (0 : Int) ≤ (O.length : Int) := by omega
  have HO := Lib.hid hO; have HF := Lib.hid hF; have HR := Lib.hid hR; have HAT := Lib.hid hat
  have HIH := Lib.hid ih; have HSL := Lib.hid hsl
  have hB := Blk.new w 24 #[.int .i64 5, .int .i64 n, .string ⟨#[]⟩, .slice A l.length c]
  have hb0 := ballocs (Below.refl w.heap.size w) (.cells #[.int .i64 5, .int .i64 n, .string ⟨#[]⟩, .slice A l.length c] 24)
  have hF0 := hF.below hb0
  have hts0 := hts.under hb0 (fun b hb => (hR b hb).1)
  have HB0 := Lib.hid hb0
  have hM : ¬ M w.heap.size := fun h => by
    obtain ⟨v, _, _, _, _, _, h6⟩ := hF
    have := (h6 _ h).1; omega
  have HM := Lib.hid hM
  have hgl := hF.lt.1
  have hne : gx ≠ w.heap.size := by omega
  obtain ⟨Aw, cw, x0w, hcw, hfw, _, _, _⟩ := hF.cells
  have HPH := Lib.hid (fun (w : World) => rpack_any 11 (128 * n + (l.length : Int)) (WalkArith.wf_i64 (by omega)) w)
  have hn0 := hn.1; have hn1 := hn.2
  have HP := Lib.hid (fun (w : World) => rpack_any 5 (O.length : Int) (WalkArith.wf_i64 (by omega)) w)
  obtain ⟨i0, hi, hz0, hz1, hz2⟩ := info_parts infoW
  clear hF hs hb0 hM hO hR hts hat ih hsl
  go_enter Try.func50, Try.ntmps50
  go_wp2_with fail
  obtain ⟨w0, hw0⟩ : ∃ x, w.alloc (.cells #[.int .i64 5, .int .i64 n, .string ⟨#[]⟩, .slice A l.length c] 24) = x := ⟨_, rfl⟩
  rw [hw0] at hB HB0 hF0 hts0 ⊢
  obtain ⟨A0, c0, x0, hc, hfz, hRR, hca, hcm⟩ := hF0.cells
  obtain ⟨p0, p1, p2, p3, _, _, _, _⟩ := hB.four
  have HF0 := Lib.hid hF0; have HTS := Lib.hid hts0; have HRR := Lib.hid hRR
  have hgl0 : gx < w0.heap.size := hF0.lt.1
  have hbl : w.heap.size < w0.heap.size := World.block_lt_of_cell? w0 _ p0
  clear hw0 hF0 hB hts0 hRR x0w hcw hfw
  go_wp2_with (first
    | (go_at_call 66; refine (HPH.out _).mono ?_; rintro e w1 ⟨rfl, hw1⟩; obtain rfl : w0 = w1 := hw1.symm)
    | (at_builtin; refine wpList_append_own_at _ rfl _ _ 25 rfl 0 49 i0 _ 1 8 Try.underlying25 hi hz0 hz1 hz2 rfl (by decide) (.slice A0 O.length c0) O.length (u64s O) rfl (HRR.out.alloc _) ⟨w0.heap.size, 0, none⟩ 1 1 [.int .u64 (packW 11 (128 * n + (l.length : Int)))] rfl rfl (cell_one_new _ _ _) (by simp [Value.oneCell']) (by unfold maxLen; omega) (by omega) (Nat.zero_le _) ?_; intro v3 w3 hR3 hg3 _ hat3
       obtain ⟨A3, c3, rfl, hA3, hC3⟩ := ownsRow_form hR3
       obtain ⟨hm3, h3c, h3f, h4c, hk3⟩ := HF0.out.word rfl hc hR3 hg3 hat3
       have e0 := hk3 _ 0 _ HM.out p0; have e1 := hk3 _ 1 _ HM.out p1; have e3 := hk3 _ 3 _ HM.out p3
       have hgl3 : gx < w3.heap.size := World.block_lt_of_cell? w3 ⟨gx, 1, none⟩ h3c
       have HM3 := Lib.hid hm3; clear hm3 hR3 hg3 hat3 hk3)
    | fail)
  have b3 := (far_cell w3 ⟨gx, 1, none⟩ ⟨w.heap.size, 3, none⟩ (.slice A3 (O.length + 1) c3) hne).trans e3
  have b0 := (far_cell w3 ⟨gx, 1, none⟩ ⟨w.heap.size, 0, none⟩ (.slice A3 (O.length + 1) c3) hne).trans e0
  obtain ⟨w4, hw4⟩ : ∃ x, w3.setCell ⟨gx, 1, none⟩ (.slice A3 (O.length + 1) c3) = x := ⟨_, rfl⟩
  rw [hw4] at HM3 h4c b3 b0 ⊢
  clear hw4 h3c h3f e0 e1 e3
  refine Zed.begin (S := fun wx => wx.cell? ⟨gx, 1, none⟩ = some (.slice A3 (O.length + 1) c3) ∧ wx.cell? ⟨w.heap.size, 3, none⟩ = some (.slice A l.length c)) (z := 11) (by kernel_rfl) ⟨h4c, b3⟩ (fun hHeld => ?_)
  refine Zed.take (i := 0) (oi := ⟨some 88, _, _, _, _, _⟩) (v := ?_) rfl (by kernel_rfl) (by kernel_rfl) (by kernel_rfl) (by kernel_rfl) (fun _ _ _ h => h) (Or.inl ⟨by rfl, ?_⟩) (by assumption) ?_
  rotate_left
  · intro wS hSw; (try dsimp only at hSw); go_simp; try with_reducible rfl
  try simp only [Act.put, List.setIfInBounds_toArray, List.set_cons_zero, List.set_cons_succ]
  refine Zed.take (i := 1) (oi := ⟨some 89, _, _, _, _, _⟩) (v := ?_) rfl (by kernel_rfl) (by kernel_rfl) (by kernel_rfl) (by kernel_rfl) (fun _ _ _ h => h) (Or.inl ⟨by rfl, ?_⟩) (by assumption) ?_
  rotate_left
  · intro wS hSw; (try dsimp only at hSw); go_simp; try with_reducible rfl
  try simp only [Act.put, List.setIfInBounds_toArray, List.set_cons_zero, List.set_cons_succ]
  refine Zed.take (i := 2) (oi := ⟨some 90, _, _, _, _, _⟩) (v := ?_) rfl (by kernel_rfl) (by kernel_rfl) (by kernel_rfl) (by kernel_rfl) (fun _ _ _ h => h) (Or.inl ⟨by rfl, ?_⟩) (by assumption) ?_
  rotate_left
  · intro wS hSw; (try dsimp only at hSw); go_simp; try with_reducible rfl
  try simp only [Act.put, List.setIfInBounds_toArray, List.set_cons_zero, List.set_cons_succ]
  refine Zed.take (i := 3) (oi := ⟨some 91, _, _, _, _, _⟩) (v := ?_) rfl (by kernel_rfl) (by kernel_rfl) (by kernel_rfl) (by kernel_rfl) (fun _ _ _ h => h) (Or.inl ⟨by rfl, ?_⟩) (by assumption) ?_
  rotate_left
  · intro wS hSw; (try dsimp only at hSw); go_simp; try with_reducible rfl
  try simp only [Act.put, List.setIfInBounds_toArray, List.set_cons_zero, List.set_cons_succ]
  refine Zed.take (i := 4) (oi := ⟨some 92, _, _, _, _, _⟩) (v := ?_) rfl (by kernel_rfl) (by kernel_rfl) (by kernel_rfl) (by kernel_rfl) (fun _ _ _ h => h) (Or.inl ⟨by rfl, ?_⟩) (by assumption) ?_
  rotate_left
  · intro wS hSw; (try dsimp only at hSw); go_simp; try with_reducible rfl
  try simp only [Act.put, List.setIfInBounds_toArray, List.set_cons_zero, List.set_cons_succ]
  refine Zed.take (i := 5) (oi := ⟨some 93, _, _, _, _, _⟩) (v := ?_) rfl (by kernel_rfl) (by kernel_rfl) (by kernel_rfl) (by kernel_rfl) (fun _ _ _ h => h) (Or.inl ⟨by rfl, ?_⟩) (by assumption) ?_
  rotate_left
  · intro wS hSw; (try dsimp only at hSw); go_simp; try with_reducible rfl
  try simp only [Act.put, List.setIfInBounds_toArray, List.set_cons_zero, List.set_cons_succ]
  refine Zed.take (i := 6) (oi := ⟨some 94, _, _, _, _, _⟩) (v := ?_) rfl (by kernel_rfl) (by kernel_rfl) (by kernel_rfl) (by kernel_rfl) (fun _ _ _ h => h) (Or.inl ⟨by rfl, ?_⟩) (by assumption) ?_
  rotate_left
  · intro wS hSw; (try dsimp only at hSw); go_simp; try with_reducible rfl
  try simp only [Act.put, List.setIfInBounds_toArray, List.set_cons_zero, List.set_cons_succ]
  refine Zed.take (i := 7) (oi := ⟨some 95, _, _, _, _, _⟩) (v := ?_) rfl (by kernel_rfl) (by kernel_rfl) (by kernel_rfl) (by kernel_rfl) (fun _ _ _ h => h) (Or.inl ⟨by rfl, ?_⟩) (by assumption) ?_
  rotate_left
  · intro wS hSw; (try dsimp only at hSw); go_simp; try with_reducible rfl
  try simp only [Act.put, List.setIfInBounds_toArray, List.set_cons_zero, List.set_cons_succ]
  refine Zed.ready (rs := [8]) (by kernel_rfl) (by simp) ?_
  refine Zeach.cons (o := ⟨some 96, _, _, _, _, _⟩) rfl (fun K hK => ?_) Zeach.nil
  have hRw : w4.drew.ownsRow 0 49 1 (.slice A3 (O.length + 1) c3) (O.length + 1) (u64s (O ++ [packW 11 (128 * n + (l.length : Int))])) := by obtain ⟨M4, hF4, _, _⟩ := HM3.out; exact Rs.row (hF4.below (below_draw w4)) h4c (by simp)
  obtain ⟨v5, w5, run5, hR5, hg5, hat5⟩ := run_append_zeros (P := Try.prog) w4.drew 0 25 3 25 49 i0 _ (.int .u64 0) 8 Try.underlying25 Try.underlying3 hi hz0 hz1 hz2 rfl rfl (.slice A3 (O.length + 1) c3) (O.length + 1) _ hRw l.length (by unfold maxLen; omega) (by omega) (Nat.zero_le _)
  obtain ⟨A5, c5, rfl, _, _⟩ := ownsRow_form hR5
  obtain ⟨hm5, h5c, h5f, b5⟩ := Rs.zeros HM3.out (by simp) h4c hR5 hg5 hat5 HM.out hbl b3
  have HM5 := Lib.hid hm5
  clear hm5 hR5 hg5 hat5 hRw
  refine step_append_run2 (.tmp 92) (.tmp 95) 25 3 _ _ _ run5 rfl rfl (by simp [Act.eval, Act.put]) (by simp [Act.eval, Act.put]) ?_
  refine hK.out _ _ ⟨h5c, b5⟩ (fun hHeld => ?_)
  clear hK K
  try simp only [Act.put, List.setIfInBounds_toArray, List.set_cons_zero, List.set_cons_succ]
  refine Zed.ready (rs := [9]) (by kernel_rfl) (by simp) ?_
  refine Zeach.cons (o := ⟨some 97, _, _, _, _, _⟩) rfl (fun K hK => ?_) Zeach.nil
  go_simp
  refine hK.out _ _ ⟨h5c, b5⟩ (fun hHeld => ?_)
  clear hK K
  try simp only [Act.put, List.setIfInBounds_toArray, List.set_cons_zero, List.set_cons_succ]
  refine Zed.take (i := 10) (oi := ⟨some 98, _, _, _, _, _⟩) (v := ?_) rfl (by kernel_rfl) (by kernel_rfl) (by kernel_rfl) (by kernel_rfl) (fun _ _ _ h => h) (Or.inl ⟨by rfl, ?_⟩) (by assumption) ?_
  rotate_left
  · intro wS hSw; (try dsimp only at hSw); go_simp; try with_reducible rfl
  try simp only [Act.put, List.setIfInBounds_toArray, List.set_cons_zero, List.set_cons_succ]
  refine Zed.ready (rs := [11]) (by kernel_rfl) (by simp) ?_
  refine Zeach.last (o := ⟨none, _, _, _, _, _⟩) rfl (fun K hK => ?_)
  go_simp
  refine hK.out _ _ ?_
  clear hK K
  try simp only [Act.put, List.setIfInBounds_toArray, List.set_cons_zero, List.set_cons_succ]
  refine Zed.done (by kernel_rfl) ?_ _
  obtain ⟨w6, hw6⟩ : ∃ x, w5.setCell ⟨gx, 1, none⟩ (.slice A5 (O.length + 1 + l.length) c5) = x := ⟨_, rfl⟩
  rw [hw6] at HM5 ⊢
  clear hw6 h5c h5f b5 HM3 b3 b0 h4c run5
  have HS0 := Lib.hid (show RMv w0 M gx h G L (mid (ix L) O 5 n l 0) w6 from by
    rw [mid_zero]
    rw [show hd 5 n l.length = [packW 11 (128 * n + (l.length : Int))] from by unfold hd; rw [if_neg (by decide), if_pos rfl, Int.mul_comm]]
    exact HM5.out)
  clear HM5
  go_wp2_with fail
  go_loopw [12] (fun x wr => ∃ i : Nat, i ≤ l.length ∧ x = .int .i64 (i : Int) ∧ RMv w0 M gx h G L (mid (ix L) O 5 n l i) wr) (fun x _ => l.length - (intOf x).toNat)
  case atStart => exact ⟨0, Nat.zero_le _, rfl, HS0.out⟩
  case round =>
    obtain ⟨i, hi, rfl, hm⟩ := hrel
    have HMR := Lib.hid hm
    have b3 := hm.at_ HM.out p3; have b0 := hm.at_ HM.out p0
    have hi0 : (0 : Int) ≤ (i : Int) := by omega
    by_cases hlt : i < l.length
    · obtain ⟨u, hu⟩ : ∃ u, l[i]? = some u := ⟨_, List.getElem?_eq_getElem hlt⟩
      obtain ⟨M9, hF9, hs9, hk9⟩ := hm
      have hG9 : ∀ b, R b → b < wr.heap.size ∧ ¬ M9 b := fun b hb => by
        have h1 := HR.out b hb; have h2 := HB0.out.size; have h3 := hk9.size
        refine ⟨by omega, fun hm => ?_⟩
        rcases hs9 b hm with h | h; exact h1.2 h; omega
      have hts9 := HTS.out.keepF hk9 (fun b hb => by have := HR.out b hb; have := HB0.out.size; omega) (fun b hb => (HR.out b hb).2)
      obtain ⟨bb, o, A1, c1, rfl, hb1, d0, d1, d2, d3, ok1, hts1⟩ := hts9.at_ hu
      have HBD := Lib.hid (mid_bound (ix L) O 5 n ⟨#[]⟩ (by unfold boxK; omega) hu)
      have HS9 := Lib.hid hs9; have HK9 := Lib.hid hk9; have HU := Lib.hid hu
      have HC := Lib.hid (HIH.out u (List.mem_of_getElem? hu) _ wr M9 R G gx h L (mid (ix L) O 5 n l i) hF9 (TAt.of ok1 hts1) hG9 (HSL.out u (List.mem_of_getElem? hu)) (fun s hs => HAT.out s (by rw [atoms_mk, if_neg (by decide)]; exact atomsL_mem (List.mem_of_getElem? hu) hs)) (by have h1 := HBD.out; have h2 := HO.out; omega))
      unfold tv at HC
      have hil : (i : Int) < (l.length : Int) := by omega
      clear hF9 hs9 hk9 hG9 hts9 hts1 ok1 hu
      go_wp2_with fail
      refine HC.out.mono ?_
      rintro e w7 ⟨rfl, hm7⟩
      obtain ⟨M10, hF10, hs10, hk10⟩ := hm7
      obtain ⟨N, hN⟩ : ∃ N, (mid (ix L) O 5 n l i ++ lay (ix L) u (mid (ix L) O 5 n l i).length).length = N := ⟨_, rfl⟩
      have hiN : O.length + 1 + i < N := by
        rw [← hN, List.length_append, mid_len _ _ _ _ _ (by omega)]
        have : (hd 5 n l.length).length = 1 := rfl
        omega
      obtain ⟨r, cr, hcr, hcr1, hcr2, ⟨x9, hx9⟩, hfz9, hst⟩ := hF10.store (by rw [hN]; exact hiN)
      obtain ⟨_, _, hx0, _, _, _, _, _⟩ := hF10.cells
      rw [hN] at hcr hcr1
      have hiN2 : (O.length : Int) + 1 + (i : Int) < (N : Int) := by omega
      have HST := Lib.hid hst; have HS10 := Lib.hid hs10; have HK10 := Lib.hid hk10
      clear hF10 hst hN hs10 hk10 b3 b0
      go_wp2_with fail
      refine ⟨⟨i + 1, by omega, by go_num, ?_⟩, by simp [intOf]; omega⟩
      have hms := mid_step (f := ix L) (f' := ix L) O 5 n HU.out (fun s hs => rfl)
      rw [← hms]
      exact RMv.then_ HS9.out HK9.out (RMv.then_ HS10.out HK10.out (HST.out _))
    · obtain rfl : i = l.length := by omega
      clear hm
      go_wp2_with (first
        | (go_at_call 66; refine (HP.out _).mono ?_; rintro e w9 ⟨rfl, rfl⟩)
        | fail)
      go_ret
      have h1 := HMR.out
      rw [mid_end _ O 5 n ⟨#[]⟩ l (by unfold boxK; omega)] at h1
      exact ⟨ret1_w (by rw [ownW_mk, if_neg (by decide), if_pos (by unfold boxK; omega)]), RMv.from_ HB0.out h1⟩
set_option maxRecDepth 100000 in
set_option maxHeartbeats 16000000 in
theorem rlay_9 (l : List Tm) (ih : ∀ u ∈ l, RLayC u) (hsl : ∀ u ∈ l, sndL (subs u) = true) (A : Option Addr) (c : Nat) (w : World) (M R G : Nat → Prop) (gx h : Nat) (L : List ByteArray) (O : List Int) (hF : Rs w M gx h G L O) (hts : TsAt w R A l) (hR : ∀ b, R b → b < w.heap.size ∧ ¬ M b) (hs : soundB (.mk 9 0 ⟨#[]⟩ l) = true) (hat : ∀ y ∈ atoms (.mk 9 0 ⟨#[]⟩ l), y ∈ L) (hO : (O.length : Int) + wds (.mk 9 0 ⟨#[]⟩ l) ≤ 65537) :
    Calls Try.prog 50 #[.pointer (some ⟨gx, 0, none⟩), .agg #[.int .i64 9, .int .i64 0, .string ⟨#[]⟩, .slice A l.length c]] w fun e w' => e = .returned (.int .u64 (ownW (ix L) (.mk 9 0 ⟨#[]⟩ l) O.length)) ∧ RMv w M gx h G L (O ++ lay (ix L) (.mk 9 0 ⟨#[]⟩ l) O.length) w' := by
  have hlen : l.length ≤ 64 := by have h := (soundB_9 _ _ _).1 hs; omega
  have hO2 : O.length ≤ 65537 := by have := (wds_range (.mk 9 0 ⟨#[]⟩ l)).1; omega
  have hO0 : (0 : Int) ≤ (O.length : Int) := by omega
  have HO := Lib.hid hO; have HF := Lib.hid hF; have HR := Lib.hid hR; have HAT := Lib.hid hat
  have HIH := Lib.hid ih; have HSL := Lib.hid hsl
  have hB := Blk.new w 24 #[.int .i64 9, .int .i64 0, .string ⟨#[]⟩, .slice A l.length c]
  have hb0 := ballocs (Below.refl w.heap.size w) (.cells #[.int .i64 9, .int .i64 0, .string ⟨#[]⟩, .slice A l.length c] 24)
  have hF0 := hF.below hb0
  have hts0 := hts.under hb0 (fun b hb => (hR b hb).1)
  have HB0 := Lib.hid hb0
  have hM : ¬ M w.heap.size := fun h => by
    obtain ⟨v, _, _, _, _, _, h6⟩ := hF
    have := (h6 _ h).1; omega
  have HM := Lib.hid hM
  have hgl := hF.lt.1
  have hne : gx ≠ w.heap.size := by omega
  obtain ⟨Aw, cw, x0w, hcw, hfw, _, _, _⟩ := hF.cells
  have HP := Lib.hid (fun (w : World) => rpack_any 9 (O.length : Int) (WalkArith.wf_i64 (by omega)) w)
  obtain ⟨i0, hi, hz0, hz1, hz2⟩ := info_parts infoW
  clear hF hs hb0 hM hO hR hts hat ih hsl
  go_enter Try.func50, Try.ntmps50
  go_wp2_with fail
  obtain ⟨w0, hw0⟩ : ∃ x, w.alloc (.cells #[.int .i64 9, .int .i64 0, .string ⟨#[]⟩, .slice A l.length c] 24) = x := ⟨_, rfl⟩
  rw [hw0] at hB HB0 hF0 hts0 ⊢
  obtain ⟨A0, c0, x0, hc, hfz, hRR, hca, hcm⟩ := hF0.cells
  obtain ⟨p0, p1, p2, p3, _, _, _, _⟩ := hB.four
  have HF0 := Lib.hid hF0; have HTS := Lib.hid hts0; have HRR := Lib.hid hRR
  have hgl0 : gx < w0.heap.size := hF0.lt.1
  have hbl : w.heap.size < w0.heap.size := World.block_lt_of_cell? w0 _ p0
  clear hw0 hF0 hB hts0 hRR x0w hcw hfw
  have HM3 := Lib.hid (RMv.stay HF0.out)
  have h4c := hc; have b3 := p3; have b0 := p0
  refine Zed.begin (S := fun wx => wx.cell? ⟨gx, 1, none⟩ = some (.slice A0 O.length c0) ∧ wx.cell? ⟨w.heap.size, 3, none⟩ = some (.slice A l.length c)) (z := 11) (by kernel_rfl) ⟨h4c, b3⟩ (fun hHeld => ?_)
  refine Zed.take (i := 0) (oi := ⟨some 88, _, _, _, _, _⟩) (v := ?_) rfl (by kernel_rfl) (by kernel_rfl) (by kernel_rfl) (by kernel_rfl) (fun _ _ _ h => h) (Or.inl ⟨by rfl, ?_⟩) (by assumption) ?_
  rotate_left
  · intro wS hSw; (try dsimp only at hSw); go_simp; try with_reducible rfl
  try simp only [Act.put, List.setIfInBounds_toArray, List.set_cons_zero, List.set_cons_succ]
  refine Zed.take (i := 1) (oi := ⟨some 89, _, _, _, _, _⟩) (v := ?_) rfl (by kernel_rfl) (by kernel_rfl) (by kernel_rfl) (by kernel_rfl) (fun _ _ _ h => h) (Or.inl ⟨by rfl, ?_⟩) (by assumption) ?_
  rotate_left
  · intro wS hSw; (try dsimp only at hSw); go_simp; try with_reducible rfl
  try simp only [Act.put, List.setIfInBounds_toArray, List.set_cons_zero, List.set_cons_succ]
  refine Zed.take (i := 2) (oi := ⟨some 90, _, _, _, _, _⟩) (v := ?_) rfl (by kernel_rfl) (by kernel_rfl) (by kernel_rfl) (by kernel_rfl) (fun _ _ _ h => h) (Or.inl ⟨by rfl, ?_⟩) (by assumption) ?_
  rotate_left
  · intro wS hSw; (try dsimp only at hSw); go_simp; try with_reducible rfl
  try simp only [Act.put, List.setIfInBounds_toArray, List.set_cons_zero, List.set_cons_succ]
  refine Zed.take (i := 3) (oi := ⟨some 91, _, _, _, _, _⟩) (v := ?_) rfl (by kernel_rfl) (by kernel_rfl) (by kernel_rfl) (by kernel_rfl) (fun _ _ _ h => h) (Or.inl ⟨by rfl, ?_⟩) (by assumption) ?_
  rotate_left
  · intro wS hSw; (try dsimp only at hSw); go_simp; try with_reducible rfl
  try simp only [Act.put, List.setIfInBounds_toArray, List.set_cons_zero, List.set_cons_succ]
  refine Zed.take (i := 4) (oi := ⟨some 92, _, _, _, _, _⟩) (v := ?_) rfl (by kernel_rfl) (by kernel_rfl) (by kernel_rfl) (by kernel_rfl) (fun _ _ _ h => h) (Or.inl ⟨by rfl, ?_⟩) (by assumption) ?_
  rotate_left
  · intro wS hSw; (try dsimp only at hSw); go_simp; try with_reducible rfl
  try simp only [Act.put, List.setIfInBounds_toArray, List.set_cons_zero, List.set_cons_succ]
  refine Zed.take (i := 5) (oi := ⟨some 93, _, _, _, _, _⟩) (v := ?_) rfl (by kernel_rfl) (by kernel_rfl) (by kernel_rfl) (by kernel_rfl) (fun _ _ _ h => h) (Or.inl ⟨by rfl, ?_⟩) (by assumption) ?_
  rotate_left
  · intro wS hSw; (try dsimp only at hSw); go_simp; try with_reducible rfl
  try simp only [Act.put, List.setIfInBounds_toArray, List.set_cons_zero, List.set_cons_succ]
  refine Zed.take (i := 6) (oi := ⟨some 94, _, _, _, _, _⟩) (v := ?_) rfl (by kernel_rfl) (by kernel_rfl) (by kernel_rfl) (by kernel_rfl) (fun _ _ _ h => h) (Or.inl ⟨by rfl, ?_⟩) (by assumption) ?_
  rotate_left
  · intro wS hSw; (try dsimp only at hSw); go_simp; try with_reducible rfl
  try simp only [Act.put, List.setIfInBounds_toArray, List.set_cons_zero, List.set_cons_succ]
  refine Zed.take (i := 7) (oi := ⟨some 95, _, _, _, _, _⟩) (v := ?_) rfl (by kernel_rfl) (by kernel_rfl) (by kernel_rfl) (by kernel_rfl) (fun _ _ _ h => h) (Or.inl ⟨by rfl, ?_⟩) (by assumption) ?_
  rotate_left
  · intro wS hSw; (try dsimp only at hSw); go_simp; try with_reducible rfl
  try simp only [Act.put, List.setIfInBounds_toArray, List.set_cons_zero, List.set_cons_succ]
  refine Zed.ready (rs := [8]) (by kernel_rfl) (by simp) ?_
  refine Zeach.cons (o := ⟨some 96, _, _, _, _, _⟩) rfl (fun K hK => ?_) Zeach.nil
  have hRw : w0.drew.ownsRow 0 49 1 (.slice A0 O.length c0) O.length (u64s O) := by obtain ⟨M4, hF4, _, _⟩ := HM3.out; exact Rs.row (hF4.below (below_draw w0)) h4c (by simp)
  obtain ⟨v5, w5, run5, hR5, hg5, hat5⟩ := run_append_zeros (P := Try.prog) w0.drew 0 25 3 25 49 i0 _ (.int .u64 0) 8 Try.underlying25 Try.underlying3 hi hz0 hz1 hz2 rfl rfl (.slice A0 O.length c0) O.length _ hRw l.length (by unfold maxLen; omega) (by omega) (Nat.zero_le _)
  obtain ⟨A5, c5, rfl, _, _⟩ := ownsRow_form hR5
  obtain ⟨hm5, h5c, h5f, b5⟩ := Rs.zeros HM3.out (by simp) h4c hR5 hg5 hat5 HM.out hbl b3
  have HM5 := Lib.hid hm5
  clear hm5 hR5 hg5 hat5 hRw
  refine step_append_run2 (.tmp 92) (.tmp 95) 25 3 _ _ _ run5 rfl rfl (by simp [Act.eval, Act.put]) (by simp [Act.eval, Act.put]) ?_
  refine hK.out _ _ ⟨h5c, b5⟩ (fun hHeld => ?_)
  clear hK K
  try simp only [Act.put, List.setIfInBounds_toArray, List.set_cons_zero, List.set_cons_succ]
  refine Zed.ready (rs := [9]) (by kernel_rfl) (by simp) ?_
  refine Zeach.cons (o := ⟨some 97, _, _, _, _, _⟩) rfl (fun K hK => ?_) Zeach.nil
  go_simp
  refine hK.out _ _ ⟨h5c, b5⟩ (fun hHeld => ?_)
  clear hK K
  try simp only [Act.put, List.setIfInBounds_toArray, List.set_cons_zero, List.set_cons_succ]
  refine Zed.take (i := 10) (oi := ⟨some 98, _, _, _, _, _⟩) (v := ?_) rfl (by kernel_rfl) (by kernel_rfl) (by kernel_rfl) (by kernel_rfl) (fun _ _ _ h => h) (Or.inl ⟨by rfl, ?_⟩) (by assumption) ?_
  rotate_left
  · intro wS hSw; (try dsimp only at hSw); go_simp; try with_reducible rfl
  try simp only [Act.put, List.setIfInBounds_toArray, List.set_cons_zero, List.set_cons_succ]
  refine Zed.ready (rs := [11]) (by kernel_rfl) (by simp) ?_
  refine Zeach.last (o := ⟨none, _, _, _, _, _⟩) rfl (fun K hK => ?_)
  go_simp
  refine hK.out _ _ ?_
  clear hK K
  try simp only [Act.put, List.setIfInBounds_toArray, List.set_cons_zero, List.set_cons_succ]
  refine Zed.done (by kernel_rfl) ?_ _
  obtain ⟨w6, hw6⟩ : ∃ x, w5.setCell ⟨gx, 1, none⟩ (.slice A5 (O.length + l.length) c5) = x := ⟨_, rfl⟩
  rw [hw6] at HM5 ⊢
  clear hw6 h5c h5f b5 HM3 b3 b0 h4c run5
  have HS0 := Lib.hid (show RMv w0 M gx h G L (mid (ix L) O 9 0 l 0) w6 from by
    rw [mid_zero]
    rw [show hd 9 0 l.length = [] from rfl, List.append_nil]
    exact HM5.out)
  clear HM5
  go_wp2_with fail
  go_loopw [12] (fun x wr => ∃ i : Nat, i ≤ l.length ∧ x = .int .i64 (i : Int) ∧ RMv w0 M gx h G L (mid (ix L) O 9 0 l i) wr) (fun x _ => l.length - (intOf x).toNat)
  case atStart => exact ⟨0, Nat.zero_le _, rfl, HS0.out⟩
  case round =>
    obtain ⟨i, hi, rfl, hm⟩ := hrel
    have HMR := Lib.hid hm
    have b3 := hm.at_ HM.out p3; have b0 := hm.at_ HM.out p0
    have hi0 : (0 : Int) ≤ (i : Int) := by omega
    by_cases hlt : i < l.length
    · obtain ⟨u, hu⟩ : ∃ u, l[i]? = some u := ⟨_, List.getElem?_eq_getElem hlt⟩
      obtain ⟨M9, hF9, hs9, hk9⟩ := hm
      have hG9 : ∀ b, R b → b < wr.heap.size ∧ ¬ M9 b := fun b hb => by
        have h1 := HR.out b hb; have h2 := HB0.out.size; have h3 := hk9.size
        refine ⟨by omega, fun hm => ?_⟩
        rcases hs9 b hm with h | h; exact h1.2 h; omega
      have hts9 := HTS.out.keepF hk9 (fun b hb => by have := HR.out b hb; have := HB0.out.size; omega) (fun b hb => (HR.out b hb).2)
      obtain ⟨bb, o, A1, c1, rfl, hb1, d0, d1, d2, d3, ok1, hts1⟩ := hts9.at_ hu
      have HBD := Lib.hid (mid_bound (ix L) O 9 0 ⟨#[]⟩ (by unfold boxK; omega) hu)
      have HS9 := Lib.hid hs9; have HK9 := Lib.hid hk9; have HU := Lib.hid hu
      have HC := Lib.hid (HIH.out u (List.mem_of_getElem? hu) _ wr M9 R G gx h L (mid (ix L) O 9 0 l i) hF9 (TAt.of ok1 hts1) hG9 (HSL.out u (List.mem_of_getElem? hu)) (fun s hs => HAT.out s (by rw [atoms_mk, if_neg (by decide)]; exact atomsL_mem (List.mem_of_getElem? hu) hs)) (by have h1 := HBD.out; have h2 := HO.out; omega))
      unfold tv at HC
      have hil : (i : Int) < (l.length : Int) := by omega
      clear hF9 hs9 hk9 hG9 hts9 hts1 ok1 hu
      go_wp2_with fail
      refine HC.out.mono ?_
      rintro e w7 ⟨rfl, hm7⟩
      obtain ⟨M10, hF10, hs10, hk10⟩ := hm7
      obtain ⟨N, hN⟩ : ∃ N, (mid (ix L) O 9 0 l i ++ lay (ix L) u (mid (ix L) O 9 0 l i).length).length = N := ⟨_, rfl⟩
      have hiN : O.length + i < N := by
        rw [← hN, List.length_append, mid_len _ _ _ _ _ (by omega)]
        have : (hd 9 0 l.length).length = 0 := rfl
        omega
      obtain ⟨r, cr, hcr, hcr1, hcr2, ⟨x9, hx9⟩, hfz9, hst⟩ := hF10.store (by rw [hN]; exact hiN)
      obtain ⟨_, _, hx0, _, _, _, _, _⟩ := hF10.cells
      rw [hN] at hcr hcr1
      have hiN2 : (O.length : Int) + (i : Int) < (N : Int) := by omega
      have HST := Lib.hid hst; have HS10 := Lib.hid hs10; have HK10 := Lib.hid hk10
      clear hF10 hst hN hs10 hk10 b3 b0
      go_wp2_with fail
      refine ⟨⟨i + 1, by omega, by go_num, ?_⟩, by simp [intOf]; omega⟩
      have hms := mid_step (f := ix L) (f' := ix L) O 9 0 HU.out (fun s hs => rfl)
      rw [← hms]
      exact RMv.then_ HS9.out HK9.out (RMv.then_ HS10.out HK10.out (HST.out _))
    · obtain rfl : i = l.length := by omega
      clear hm
      go_wp2_with (first
        | (go_at_call 66; refine (HP.out _).mono ?_; rintro e w9 ⟨rfl, rfl⟩)
        | fail)
      go_ret
      have h1 := HMR.out
      rw [mid_end _ O 9 0 ⟨#[]⟩ l (by unfold boxK; omega)] at h1
      exact ⟨ret1_w (by rw [ownW_mk, if_neg (by decide), if_pos (by unfold boxK; omega)]), RMv.from_ HB0.out h1⟩
end Go.Proofs.Ytfcialleekfjmaa.Fl
