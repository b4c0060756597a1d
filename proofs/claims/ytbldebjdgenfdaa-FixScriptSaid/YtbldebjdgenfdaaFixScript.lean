/- The law FixScript returns true for every input: what all calls of a count answer, and who has fixed how often then, are the document's. -/
import Derived.Test.YtbldebjdgenfdaaFixAct
import Derived.Test.YtbldebjdgenfdaaOverInts
import Derived.Test.YtbldebjdgenfdaaOpenPairs
import Derived.Deep.RegionHeld3
namespace Go.Proofs.Ytbldebjdgenfdaa.FixScript
open Go.RowKit K Fx
open Go.ChangeShapes Go.WideShapes Go.ChangeAt
set_option linter.unusedVariables false
set_option linter.unusedSimpArgs false

section
variable {B0 : Nat} {w0 W W1 : World} {g n h0 : Nat} {L : List Int}
theorem ds_of (hD : DS B0 w0 g n h0 L W) (p : Int) (hp : (Lit.int .i64 p).wf = true) : Calls Try.prog 9 #[.pointer (some ⟨g, 0, none⟩), .int .i64 p] W fun e w' => e = .returned (.int .i64 (cnt L p : Int)) ∧ W = w' := by
  obtain ⟨b1, b2, F, G, hC, hR, hF, hG, hd⟩ := hD
  exact of_any g n L p W F hC hp
theorem ds_rof (hD : DS B0 w0 g n h0 L W) (hL : L.length ≤ 65536) (p : Int) : Calls Try.prog 10 #[.pointer (some ⟨h0, 0, none⟩), .int .i64 p] W fun e w' => e = .returned (.int .i64 (cnt L p : Int)) ∧ W = w' := by
  obtain ⟨b1, b2, F, G, hC, hR, hF, hG, hd⟩ := hD
  exact rof_any h0 L p W G hR hL
theorem ds_total (hD : DS B0 w0 g n h0 L W) : Calls Try.prog 11 #[.pointer (some ⟨g, 0, none⟩)] W fun e w' => e = .returned (.int .i64 (L.length : Int)) ∧ W = w' := by
  obtain ⟨b1, b2, F, G, hC, hR, hF, hG, hd⟩ := hD
  exact total_any g n L W F hC
theorem ds_cell (hD : DS B0 w0 g n h0 L W) : ∃ A0 c0, W.cell? ⟨h0, 0, none⟩ = some (.slice A0 L.length c0) := by
  obtain ⟨b1, b2, F, G, hC, hR, hF, hG, hd⟩ := hD
  exact hR.cell
theorem ds_holders (hD : DS B0 w0 g n h0 L W) (hL : L.length ≤ 1073741824) : Calls Try.prog 12 #[.pointer (some ⟨g, 0, none⟩)] W (Ks.RowPost W (hold L)) := by
  obtain ⟨b1, b2, F, G, hC, hR, hF, hG, hd⟩ := hD
  exact holders_any g n L W F hC hL
theorem ds_rholders (hD : DS B0 w0 g n h0 L W) (hL : L.length ≤ 65536) (hf : Fine L) : Calls Try.prog 14 #[.pointer (some ⟨h0, 0, none⟩)] W (Ks.RowPost W (hold L)) := by
  obtain ⟨b1, b2, F, G, hC, hR, hF, hG, hd⟩ := hD
  exact rholders_any h0 L W G hR hL hf
theorem ds_start {w1 : World} (hC : CT w1 (fun k => W.heap.size ≤ k ∧ k < w1.heap.size) g 0 []) (hb : Below W.heap.size W w1) :
    DS W.heap.size W g 0 w1.heap.size [] (w1.alloc (.cells #[.slice none 0 0] 28)) := by
  have hb2 : Below w1.heap.size w1 (w1.alloc (.cells #[.slice none 0 0] 28)) := (Below.refl _ _).alloc (Nat.le_refl _) _
  refine ⟨hb.trans (hb2.mono hb.size), Nat.le_trans hb.size hb2.size, _, fun k => k = w1.heap.size, hC.keep (Keep.new hb2 (F := fun k => w1.heap.size ≤ k)) (fun r hr hs => by omega), ⟨.slice none 0 0, fun k hk => by rw [hk]; simp, rfl, fun r hr => (by cases hr), Blk.new _ _ _, World.ownsRow_nil _ _ _ _⟩, fun k hk => hk.1, fun k hk => by rw [hk]; exact hb.size, fun k hk hk' => by omega⟩
end
theorem ds_drew {B0 : Nat} {w0 W : World} {g n h0 : Nat} {L : List Int} (hD : DS B0 w0 g n h0 L W) : DS B0 w0 g n h0 L W.drew := hD.later ⟨rfl, rfl, rfl, Nat.le_refl _, fun _ _ => rfl⟩
theorem ds_drewN {B0 : Nat} {w0 W : World} {g n h0 : Nat} {L : List Int} (hD : DS B0 w0 g n h0 L W) (d : Nat) : DS B0 w0 g n h0 L (W.drewN d) := hD.later ⟨rfl, rfl, rfl, Nat.le_refl _, fun _ _ => rfl⟩
theorem btodrew {B : Nat} {w w' : World} (h : Below B w w') : Below B w w'.drew := ⟨h.os, h.tape, h.output, h.size, h.block⟩
theorem bnext {w0 w w' : World} (h : Below w0.heap.size w0 w) (h' : Below w.heap.size w w') : Below w0.heap.size w0 w' := h.trans (h'.mono h.size)
theorem bdrewN {B : Nat} {w w' : World} (h : Below B w w') (d : Nat) : Below B w (w'.drewN d) := ⟨h.os, h.tape, h.output, h.size, h.block⟩
theorem wpAnyH_more {P : Program} {md : Region.Mode} {ops : Array Oper} {Q : Exit → Act → World → Prop} {S S' : World → Prop} (h : ∀ w, S' w → S w) : ∀ (fuel : Nat) (listed : Array Bool) (a : Act) (w : World), wpAnyH P md ops Q S' fuel listed a w → wpAnyH P md ops Q S fuel listed a w
  | 0, _, _, _, hx => hx
  | fuel + 1, _, _, _, hx => ⟨hx.1, fun i hi => wpOp_mono (fun a' w' h' => ⟨h _ h'.1, wpAnyH_more h fuel _ a' w' h'.2⟩) (hx.2 i hi)⟩
theorem own_rd {w : World} {base n : Nat} {v : Value} {xs : List Value} (h : w.ownsRow base 3 1 v n xs) : ∃ A c, v = .slice A n c ∧ Reads w w.heap.size 1 A n xs := by
  obtain ⟨A, c, rfl, _⟩ := ownsRow_form h
  exact ⟨A, c, rfl, Reads.of_own h⟩
set_option maxRecDepth 100000 in
set_option maxHeartbeats 8000000 in
theorem walk (A : Option Addr) (c : Nat) (xs : List (Int × Int)) (pid : Int) (w : World) (hx : Pairs w w.heap.size A xs) (hlc : xs.length ≤ maxLen) (hn : (Lit.int .i64 pid).wf = true) :
    Calls Try.prog 3 #[.slice A xs.length c, .int .i64 pid] w fun e w' => e = .returned (.bool true) ∧ Below w.heap.size w w' := by
  by_cases h60 : 60 < xs.length
  · unfold maxLen at hlc
    have hb := Below.refl w.heap.size w
    go_enter Try.func3, Try.ntmps3
    go_wp2_with fail
    go_ret
    exact ⟨ret1_b rfl, hb⟩
  · have h60' : xs.length ≤ 60 := by omega
    clear h60 hlc
    have HX := Lib.hid hx
    have HN := Lib.hid hn
    clear hx hn
    go_enter Try.func3, Try.ntmps3
    go_wp2_with (first | (go_at_call 7; refine (new_any _).mono ?_; rintro e w1 ⟨g, rfl, hT, hb⟩; have HM := Lib.hid (ds_start hT hb); have hgn := hb.size; clear hT hb) | fail)
    go_loopw [7] (fun i wr => ∃ (k : Nat) (L : List Int), k ≤ xs.length ∧ i = .int .i64 (k : Int) ∧ DS w.heap.size w g k w1.heap.size L wr ∧ L.length ≤ k ∧ Fine L) (fun i _ => xs.length - (intOf i).toNat)
    case atStart => exact ⟨0, [], Nat.zero_le _, rfl, HM.out, by simp, fun x h => by simp at h⟩
    case round =>
      obtain ⟨k, L, hk, rfl, hS, hLk, hf⟩ := hrel
      clear HM
      obtain ⟨h0, hh0⟩ : ∃ h0, w1.heap.size = h0 := ⟨_, rfl⟩
      rw [hh0] at hS ⊢
      by_cases hlt : k < xs.length
      · obtain ⟨⟨kd, pd⟩, hp⟩ : ∃ p, xs[k]? = some p := ⟨_, List.getElem?_eq_getElem hlt⟩
        obtain ⟨b, o, rfl, hb, d0, d1, wk, wp⟩ := HX.out k _ hp
        have HCL := Lib.hid (show ∀ wx n L, DS w.heap.size w g n h0 L wx → (wx.cell? ⟨b, o + k * 2, none⟩ = some (.int .i64 kd) ∧ wx.cell? ⟨b, o + k * 2 + 1, none⟩ = some (.int .i64 pd)) from fun wx n L h => ⟨(h.1.cell (p := ⟨b, o + k * 2, none⟩) hb).trans d0, (h.1.cell (p := ⟨b, o + k * 2 + 1, none⟩) hb).trans d1⟩)
        have HAct := Lib.hid (fun wx (h : DS w.heap.size w g k h0 L wx) => act_any w.heap.size w g k h0 L kd pd wx h (by omega) (by omega) hf wk wp)
        have HWP := Lib.hid wp
        have HS := Lib.hid hS
        have HW := Lib.hid hh0
        clear hS hh0 hf d0 d1 wk wp hp hb
        go_wp2_with fail
        obtain ⟨e0, e1⟩ := HCL.out _ _ _ HS.out
        refine wp_region_held_drew (S := fun wx => wx.cell? ⟨b, o + k * 2, none⟩ = some (.int .i64 kd) ∧ wx.cell? ⟨b, o + k * 2 + 1, none⟩ = some (.int .i64 pd)) (by kernel_rfl) (HCL.out _ _ _ (ds_drewN HS.out 1)) (fun hHeld => ?_)
        refine wpAnyH_take (i := 0) (oi := ⟨some 23, _, _, _, _, _⟩) (v := ?_) rfl (by kernel_rfl) (by kernel_rfl) (by kernel_rfl) (fun _ _ _ h => h) (Or.inl ⟨by rfl, ?_⟩) (by assumption) ?_
        rotate_left
        · intro wS hSw; (try dsimp only at hSw); go_simp; try with_reducible rfl
        try simp only [Act.put, List.setIfInBounds_toArray, List.set_cons_zero, List.set_cons_succ]
        refine wpAnyH_take (i := 1) (oi := ⟨some 24, _, _, _, _, _⟩) (v := ?_) rfl (by kernel_rfl) (by kernel_rfl) (by kernel_rfl) (fun _ _ _ h => h) (Or.inl ⟨by rfl, ?_⟩) (by assumption) ?_
        rotate_left
        · intro wS hSw; (try dsimp only at hSw); go_simp; try with_reducible rfl
        try simp only [Act.put, List.setIfInBounds_toArray, List.set_cons_zero, List.set_cons_succ]
        refine wpAnyH_take (i := 2) (oi := ⟨some 25, _, _, _, _, _⟩) (v := ?_) rfl (by kernel_rfl) (by kernel_rfl) (by kernel_rfl) (fun _ _ _ h => h) (Or.inl ⟨by rfl, ?_⟩) (by assumption) ?_
        rotate_left
        · intro wS hSw; (try dsimp only at hSw); go_simp; try with_reducible rfl
        try simp only [Act.put, List.setIfInBounds_toArray, List.set_cons_zero, List.set_cons_succ]
        refine wpAnyH_take (i := 3) (oi := ⟨some 26, _, _, _, _, _⟩) (v := ?_) rfl (by kernel_rfl) (by kernel_rfl) (by kernel_rfl) (fun _ _ _ h => h) (Or.inl ⟨by rfl, ?_⟩) (by assumption) ?_
        rotate_left
        · intro wS hSw; (try dsimp only at hSw); go_simp; try with_reducible rfl
        try simp only [Act.put, List.setIfInBounds_toArray, List.set_cons_zero, List.set_cons_succ]
        refine wpAnyH_take (i := 4) (oi := ⟨some 27, _, _, _, _, _⟩) (v := ?_) rfl (by kernel_rfl) (by kernel_rfl) (by kernel_rfl) (fun _ _ _ h => h) (Or.inl ⟨by rfl, ?_⟩) (by assumption) ?_
        rotate_left
        · intro wS hSw; (try dsimp only at hSw); go_simp; try with_reducible rfl
        try simp only [Act.put, List.setIfInBounds_toArray, List.set_cons_zero, List.set_cons_succ]
        refine wpAnyH_take (i := 5) (oi := ⟨some 28, _, _, _, _, _⟩) (v := ?_) rfl (by kernel_rfl) (by kernel_rfl) (by kernel_rfl) (fun _ _ _ h => h) (Or.inl ⟨by rfl, ?_⟩) (by assumption) ?_
        rotate_left
        · intro wS hSw; (try dsimp only at hSw); go_simp; try with_reducible rfl
        try simp only [Act.put, List.setIfInBounds_toArray, List.set_cons_zero, List.set_cons_succ]
        refine wpAnyH_ready (rs := [6]) (by kernel_rfl) (by simp) ?_
        refine AllReadyH.cons (o := ⟨some 29, _, _, _, _, _⟩) rfl (fun K hK => ?_) AllReadyH.nil
        go_simp
        go_at_call 8
        refine (HAct.out _ (ds_drewN HS.out 1)).mono ?_
        rintro e w2 ⟨rfl, L2, h2, hL2, hf2⟩
        have HD2 := Lib.hid h2
        have HF2 := Lib.hid hf2
        have hL3 : L2.length ≤ 61 := by omega
        obtain ⟨A3, c3, hc3⟩ := ds_cell h2
        clear h2 hf2
        go_wp2_with fail
        refine hK.out _ _ (HCL.out _ _ _ HD2.out) (fun hHeld1 => ?_)
        clear hK K hHeld
        refine wpAnyH_more (S' := fun wx => (wx.cell? ⟨b, o + k * 2, none⟩ = some (.int .i64 kd) ∧ wx.cell? ⟨b, o + k * 2 + 1, none⟩ = some (.int .i64 pd)) ∧ wx.cell? ⟨h0, 0, none⟩ = some (.slice A3 L2.length c3)) (fun _ h => h.1) _ _ _ _ ?_
        have hHeld : (fun wx => (wx.cell? ⟨b, o + k * 2, none⟩ = some (.int .i64 kd) ∧ wx.cell? ⟨b, o + k * 2 + 1, none⟩ = some (.int .i64 pd)) ∧ wx.cell? ⟨h0, 0, none⟩ = some (.slice A3 L2.length c3)) w2 := ⟨hHeld1, hc3⟩
        clear hHeld1
        try simp only [Act.put, List.setIfInBounds_toArray, List.set_cons_zero, List.set_cons_succ]
        refine wpAnyH_take (i := 7) (oi := ⟨some 30, _, _, _, _, _⟩) (v := ?_) rfl (by kernel_rfl) (by kernel_rfl) (by kernel_rfl) (fun _ _ _ h => h) (Or.inl ⟨by rfl, ?_⟩) (by assumption) ?_
        rotate_left
        · intro wS hSw; (try dsimp only at hSw); go_simp; try with_reducible rfl
        try simp only [Act.put, List.setIfInBounds_toArray, List.set_cons_zero, List.set_cons_succ]
        refine wpAnyH_take (i := 8) (oi := ⟨some 31, _, _, _, _, _⟩) (v := ?_) rfl (by kernel_rfl) (by kernel_rfl) (by kernel_rfl) (fun _ _ _ h => h) (Or.inl ⟨by rfl, ?_⟩) (by assumption) ?_
        rotate_left
        · intro wS hSw; (try dsimp only at hSw); go_simp; try with_reducible rfl
        try simp only [Act.put, List.setIfInBounds_toArray, List.set_cons_zero, List.set_cons_succ]
        refine wpAnyH_take (i := 9) (oi := ⟨some 32, _, _, _, _, _⟩) (v := ?_) rfl (by kernel_rfl) (by kernel_rfl) (by kernel_rfl) (fun _ _ _ h => h) (Or.inl ⟨by rfl, ?_⟩) (by assumption) ?_
        rotate_left
        · intro wS hSw; (try dsimp only at hSw); go_simp; try with_reducible rfl
        try simp only [Act.put, List.setIfInBounds_toArray, List.set_cons_zero, List.set_cons_succ]
        refine wpAnyH_take (i := 10) (oi := ⟨some 33, _, _, _, _, _⟩) (v := ?_) rfl (by kernel_rfl) (by kernel_rfl) (by kernel_rfl) (fun _ _ _ h => h) (Or.inl ⟨by rfl, ?_⟩) (by assumption) ?_
        rotate_left
        · intro wS hSw; (try dsimp only at hSw); go_simp; try with_reducible rfl
        try simp only [Act.put, List.setIfInBounds_toArray, List.set_cons_zero, List.set_cons_succ]
        refine wpAnyH_take (i := 12) (oi := ⟨some 35, _, _, _, _, _⟩) (v := ?_) rfl (by kernel_rfl) (by kernel_rfl) (by kernel_rfl) (fun _ _ _ h => h) (Or.inl ⟨by rfl, ?_⟩) (by assumption) ?_
        rotate_left
        · intro wS hSw; (try dsimp only at hSw); go_simp; try with_reducible rfl
        try simp only [Act.put, List.setIfInBounds_toArray, List.set_cons_zero, List.set_cons_succ]
        refine wpAnyH_take (i := 13) (oi := ⟨some 36, _, _, _, _, _⟩) (v := ?_) rfl (by kernel_rfl) (by kernel_rfl) (by kernel_rfl) (fun _ _ _ h => h) (Or.inl ⟨by rfl, ?_⟩) (by assumption) ?_
        rotate_left
        · intro wS hSw; (try dsimp only at hSw); go_simp; try with_reducible rfl
        try simp only [Act.put, List.setIfInBounds_toArray, List.set_cons_zero, List.set_cons_succ]
        refine wpAnyH_ready (rs := [11]) (by kernel_rfl) (by simp) ?_
        refine AllReadyH.cons (o := ⟨some 34, _, _, _, _, _⟩) rfl (fun K hK => ?_) AllReadyH.nil
        go_simp
        go_at_call 9
        refine (ds_of HD2.out _ HN.out).mono ?_
        rintro e wq ⟨rfl, rfl⟩
        go_wp2_with fail
        refine hK.out _ _ hHeld (fun _ => ?_)
        clear hK K
        try simp only [Act.put, List.setIfInBounds_toArray, List.set_cons_zero, List.set_cons_succ]
        refine wpAnyH_ready (rs := [14]) (by kernel_rfl) (by simp) ?_
        refine AllReadyH.cons (o := ⟨some 37, _, _, _, _, _⟩) rfl (fun K hK => ?_) AllReadyH.nil
        go_simp
        go_at_call 10
        refine (ds_rof HD2.out (by omega) _).mono ?_
        rintro e wq ⟨rfl, rfl⟩
        go_wp2_with fail
        refine hK.out _ _ hHeld (fun _ => ?_)
        clear hK K
        try simp only [Act.put, List.setIfInBounds_toArray, List.set_cons_zero, List.set_cons_succ]
        refine wpAnyH_take (i := 15) (oi := ⟨some 38, _, _, _, _, _⟩) (v := ?_) rfl (by kernel_rfl) (by kernel_rfl) (by kernel_rfl) (fun _ _ _ h => h) (Or.inl ⟨by rfl, ?_⟩) (by assumption) ?_
        rotate_left
        · intro wS hSw; (try dsimp only at hSw); go_simp; try with_reducible rfl
        try simp only [Act.put, List.setIfInBounds_toArray, List.set_cons_zero, List.set_cons_succ]
        refine wpAnyH_take (i := 16) (oi := ⟨some 39, _, _, _, _, _⟩) (v := ?_) rfl (by kernel_rfl) (by kernel_rfl) (by kernel_rfl) (fun _ _ _ h => h) (Or.inl ⟨by rfl, ?_⟩) (by assumption) ?_
        rotate_left
        · intro wS hSw; (try dsimp only at hSw); go_simp; try with_reducible rfl
        try simp only [Act.put, List.setIfInBounds_toArray, List.set_cons_zero, List.set_cons_succ]
        refine wpAnyH_take (i := 17) (oi := ⟨some 40, _, _, _, _, _⟩) (v := ?_) rfl (by kernel_rfl) (by kernel_rfl) (by kernel_rfl) (fun _ _ _ h => h) (Or.inl ⟨by rfl, ?_⟩) (by assumption) ?_
        rotate_left
        · intro wS hSw; (try dsimp only at hSw); go_simp; try with_reducible rfl
        try simp only [Act.put, List.setIfInBounds_toArray, List.set_cons_zero, List.set_cons_succ]
        refine wpAnyH_take (i := 18) (oi := ⟨some 41, _, _, _, _, _⟩) (v := ?_) rfl (by kernel_rfl) (by kernel_rfl) (by kernel_rfl) (fun _ _ _ h => h) (Or.inl ⟨by rfl, ?_⟩) (by assumption) ?_
        rotate_left
        · intro wS hSw; (try dsimp only at hSw); go_simp; try with_reducible rfl
        try simp only [Act.put, List.setIfInBounds_toArray, List.set_cons_zero, List.set_cons_succ]
        refine wpAnyH_take (i := 19) (oi := ⟨some 42, _, _, _, _, _⟩) (v := ?_) rfl (by kernel_rfl) (by kernel_rfl) (by kernel_rfl) (fun _ _ _ h => h) (Or.inl ⟨by rfl, ?_⟩) (by assumption) ?_
        rotate_left
        · intro wS hSw; (try dsimp only at hSw); go_simp; try with_reducible rfl
        try simp only [Act.put, List.setIfInBounds_toArray, List.set_cons_zero, List.set_cons_succ]
        refine wpAnyH_take (i := 20) (oi := ⟨some 43, _, _, _, _, _⟩) (v := ?_) rfl (by kernel_rfl) (by kernel_rfl) (by kernel_rfl) (fun _ _ _ h => h) (Or.inl ⟨by rfl, ?_⟩) (by assumption) ?_
        rotate_left
        · intro wS hSw; (try dsimp only at hSw); go_simp; try with_reducible rfl
        try simp only [Act.put, List.setIfInBounds_toArray, List.set_cons_zero, List.set_cons_succ]
        refine wpAnyH_take (i := 21) (oi := ⟨some 44, _, _, _, _, _⟩) (v := ?_) rfl (by kernel_rfl) (by kernel_rfl) (by kernel_rfl) (fun _ _ _ h => h) (Or.inl ⟨by rfl, ?_⟩) (by assumption) ?_
        rotate_left
        · intro wS hSw; (try dsimp only at hSw); go_simp; try with_reducible rfl
        try simp only [Act.put, List.setIfInBounds_toArray, List.set_cons_zero, List.set_cons_succ]
        refine wpAnyH_take (i := 22) (oi := ⟨some 45, _, _, _, _, _⟩) (v := ?_) rfl (by kernel_rfl) (by kernel_rfl) (by kernel_rfl) (fun _ _ _ h => h) (Or.inl ⟨by rfl, ?_⟩) (by assumption) ?_
        rotate_left
        · intro wS hSw; (try dsimp only at hSw); go_simp; try with_reducible rfl
        try simp only [Act.put, List.setIfInBounds_toArray, List.set_cons_zero, List.set_cons_succ]
        refine wpAnyH_take (i := 23) (oi := ⟨some 46, _, _, _, _, _⟩) (v := ?_) rfl (by kernel_rfl) (by kernel_rfl) (by kernel_rfl) (fun _ _ _ h => h) (Or.inl ⟨by rfl, ?_⟩) (by assumption) ?_
        rotate_left
        · intro wS hSw; (try dsimp only at hSw); go_simp; try with_reducible rfl
        try simp only [Act.put, List.setIfInBounds_toArray, List.set_cons_zero, List.set_cons_succ]
        refine wpAnyH_take (i := 25) (oi := ⟨some 48, _, _, _, _, _⟩) (v := ?_) rfl (by kernel_rfl) (by kernel_rfl) (by kernel_rfl) (fun _ _ _ h => h) (Or.inl ⟨by rfl, ?_⟩) (by assumption) ?_
        rotate_left
        · intro wS hSw; (try dsimp only at hSw); go_simp; try with_reducible rfl
        try simp only [Act.put, List.setIfInBounds_toArray, List.set_cons_zero, List.set_cons_succ]
        refine wpAnyH_take (i := 26) (oi := ⟨some 49, _, _, _, _, _⟩) (v := ?_) rfl (by kernel_rfl) (by kernel_rfl) (by kernel_rfl) (fun _ _ _ h => h) (Or.inl ⟨by rfl, ?_⟩) (by assumption) ?_
        rotate_left
        · intro wS hSw; (try dsimp only at hSw); go_simp; try with_reducible rfl
        try simp only [Act.put, List.setIfInBounds_toArray, List.set_cons_zero, List.set_cons_succ]
        refine wpAnyH_take (i := 27) (oi := ⟨some 50, _, _, _, _, _⟩) (v := ?_) rfl (by kernel_rfl) (by kernel_rfl) (by kernel_rfl) (fun _ _ _ h => h) (Or.inl ⟨by rfl, ?_⟩) (by assumption) ?_
        rotate_left
        · intro wS hSw; (try dsimp only at hSw); go_simp; try with_reducible rfl
        try simp only [Act.put, List.setIfInBounds_toArray, List.set_cons_zero, List.set_cons_succ]
        refine wpAnyH_take (i := 28) (oi := ⟨some 51, _, _, _, _, _⟩) (v := ?_) rfl (by kernel_rfl) (by kernel_rfl) (by kernel_rfl) (fun _ _ _ h => h) (Or.inl ⟨by rfl, ?_⟩) (by assumption) ?_
        rotate_left
        · intro wS hSw; (try dsimp only at hSw); go_simp; try with_reducible rfl
        try simp only [Act.put, List.setIfInBounds_toArray, List.set_cons_zero, List.set_cons_succ]
        refine wpAnyH_take (i := 29) (oi := ⟨some 52, _, _, _, _, _⟩) (v := ?_) rfl (by kernel_rfl) (by kernel_rfl) (by kernel_rfl) (fun _ _ _ h => h) (Or.inl ⟨by rfl, ?_⟩) (by assumption) ?_
        rotate_left
        · intro wS hSw; (try dsimp only at hSw); go_simp; try with_reducible rfl
        try simp only [Act.put, List.setIfInBounds_toArray, List.set_cons_zero, List.set_cons_succ]
        refine wpAnyH_take (i := 30) (oi := ⟨some 53, _, _, _, _, _⟩) (v := ?_) rfl (by kernel_rfl) (by kernel_rfl) (by kernel_rfl) (fun _ _ _ h => h) (Or.inl ⟨by rfl, ?_⟩) (by assumption) ?_
        rotate_left
        · intro wS hSw; (try dsimp only at hSw); go_simp; try with_reducible rfl
        try simp only [Act.put, List.setIfInBounds_toArray, List.set_cons_zero, List.set_cons_succ]
        refine wpAnyH_ready (rs := [24]) (by kernel_rfl) (by simp) ?_
        refine AllReadyH.cons (o := ⟨some 47, _, _, _, _, _⟩) rfl (fun K hK => ?_) AllReadyH.nil
        go_simp
        go_at_call 9
        refine (ds_of HD2.out _ HWP.out).mono ?_
        rintro e wq ⟨rfl, rfl⟩
        go_wp2_with fail
        refine hK.out _ _ hHeld (fun _ => ?_)
        clear hK K
        try simp only [Act.put, List.setIfInBounds_toArray, List.set_cons_zero, List.set_cons_succ]
        refine wpAnyH_ready (rs := [31]) (by kernel_rfl) (by simp) ?_
        refine AllReadyH.cons (o := ⟨some 54, _, _, _, _, _⟩) rfl (fun K hK => ?_) AllReadyH.nil
        go_simp
        go_at_call 10
        refine (ds_rof HD2.out (by omega) _).mono ?_
        rintro e wq ⟨rfl, rfl⟩
        go_wp2_with fail
        refine hK.out _ _ hHeld (fun _ => ?_)
        clear hK K
        try simp only [Act.put, List.setIfInBounds_toArray, List.set_cons_zero, List.set_cons_succ]
        refine wpAnyH_take (i := 32) (oi := ⟨some 55, _, _, _, _, _⟩) (v := ?_) rfl (by kernel_rfl) (by kernel_rfl) (by kernel_rfl) (fun _ _ _ h => h) (Or.inl ⟨by rfl, ?_⟩) (by assumption) ?_
        rotate_left
        · intro wS hSw; (try dsimp only at hSw); go_simp; try with_reducible rfl
        try simp only [Act.put, List.setIfInBounds_toArray, List.set_cons_zero, List.set_cons_succ]
        refine wpAnyH_take (i := 33) (oi := ⟨some 56, _, _, _, _, _⟩) (v := ?_) rfl (by kernel_rfl) (by kernel_rfl) (by kernel_rfl) (fun _ _ _ h => h) (Or.inl ⟨by rfl, ?_⟩) (by assumption) ?_
        rotate_left
        · intro wS hSw; (try dsimp only at hSw); go_simp; try with_reducible rfl
        try simp only [Act.put, List.setIfInBounds_toArray, List.set_cons_zero, List.set_cons_succ]
        refine wpAnyH_take (i := 34) (oi := ⟨some 57, _, _, _, _, _⟩) (v := ?_) rfl (by kernel_rfl) (by kernel_rfl) (by kernel_rfl) (fun _ _ _ h => h) (Or.inl ⟨by rfl, ?_⟩) (by assumption) ?_
        rotate_left
        · intro wS hSw; (try dsimp only at hSw); go_simp; try with_reducible rfl
        try simp only [Act.put, List.setIfInBounds_toArray, List.set_cons_zero, List.set_cons_succ]
        refine wpAnyH_take (i := 35) (oi := ⟨some 58, _, _, _, _, _⟩) (v := ?_) rfl (by kernel_rfl) (by kernel_rfl) (by kernel_rfl) (fun _ _ _ h => h) (Or.inl ⟨by rfl, ?_⟩) (by assumption) ?_
        rotate_left
        · intro wS hSw; (try dsimp only at hSw); go_simp; try with_reducible rfl
        try simp only [Act.put, List.setIfInBounds_toArray, List.set_cons_zero, List.set_cons_succ]
        refine wpAnyH_take (i := 37) (oi := ⟨some 60, _, _, _, _, _⟩) (v := ?_) rfl (by kernel_rfl) (by kernel_rfl) (by kernel_rfl) (fun _ _ _ h => h) (Or.inl ⟨by rfl, ?_⟩) (by assumption) ?_
        rotate_left
        · intro wS hSw; (try dsimp only at hSw); go_simp; try with_reducible rfl
        try simp only [Act.put, List.setIfInBounds_toArray, List.set_cons_zero, List.set_cons_succ]
        refine wpAnyH_take (i := 38) (oi := ⟨some 61, _, _, _, _, _⟩) (v := ?_) rfl (by kernel_rfl) (by kernel_rfl) (by kernel_rfl) (fun _ _ _ h => h) (Or.inl ⟨by rfl, ?_⟩) (by assumption) ?_
        rotate_left
        · intro wS hSw; (try dsimp only at hSw); go_simp; try with_reducible rfl
        try simp only [Act.put, List.setIfInBounds_toArray, List.set_cons_zero, List.set_cons_succ]
        refine wpAnyH_take (i := 39) (oi := ⟨some 62, _, _, _, _, _⟩) (v := ?_) rfl (by kernel_rfl) (by kernel_rfl) (by kernel_rfl) (fun _ _ _ h => h) (Or.inl ⟨by rfl, ?_⟩) (by assumption) ?_
        rotate_left
        · intro wS hSw; (try dsimp only at hSw); go_simp; try with_reducible rfl
        try simp only [Act.put, List.setIfInBounds_toArray, List.set_cons_zero, List.set_cons_succ]
        refine wpAnyH_take (i := 40) (oi := ⟨some 63, _, _, _, _, _⟩) (v := ?_) rfl (by kernel_rfl) (by kernel_rfl) (by kernel_rfl) (fun _ _ _ h => h) (Or.inl ⟨by rfl, ?_⟩) (by assumption) ?_
        rotate_left
        · intro wS hSw; (try dsimp only at hSw); go_simp; try with_reducible rfl
        try simp only [Act.put, List.setIfInBounds_toArray, List.set_cons_zero, List.set_cons_succ]
        refine wpAnyH_take (i := 41) (oi := ⟨some 64, _, _, _, _, _⟩) (v := ?_) rfl (by kernel_rfl) (by kernel_rfl) (by kernel_rfl) (fun _ _ _ h => h) (Or.inl ⟨by rfl, ?_⟩) (by assumption) ?_
        rotate_left
        · intro wS hSw; (try dsimp only at hSw); go_simp; try with_reducible rfl
        try simp only [Act.put, List.setIfInBounds_toArray, List.set_cons_zero, List.set_cons_succ]
        refine wpAnyH_ready (rs := [36]) (by kernel_rfl) (by simp) ?_
        refine AllReadyH.cons (o := ⟨some 59, _, _, _, _, _⟩) rfl (fun K hK => ?_) AllReadyH.nil
        go_simp
        go_at_call 11
        refine (ds_total HD2.out).mono ?_
        rintro e wq ⟨rfl, rfl⟩
        go_wp2_with fail
        refine hK.out _ _ hHeld (fun _ => ?_)
        clear hK K
        try simp only [Act.put, List.setIfInBounds_toArray, List.set_cons_zero, List.set_cons_succ]
        refine wpAnyH_take (i := 42) (oi := ⟨some 65, _, _, _, _, _⟩) (v := ?_) rfl (by kernel_rfl) (by kernel_rfl) (by kernel_rfl) (fun _ _ _ h => h) (Or.inl ⟨by rfl, ?_⟩) (by assumption) ?_
        rotate_left
        · intro wS hSw; (try dsimp only at hSw); go_simp; try with_reducible rfl
        try simp only [Act.put, List.setIfInBounds_toArray, List.set_cons_zero, List.set_cons_succ]
        refine wpAnyH_take (i := 43) (oi := ⟨some 66, _, _, _, _, _⟩) (v := ?_) rfl (by kernel_rfl) (by kernel_rfl) (by kernel_rfl) (fun _ _ _ h => h) (Or.inl ⟨by rfl, ?_⟩) (by assumption) ?_
        rotate_left
        · intro wS hSw; (try dsimp only at hSw); go_simp; try with_reducible rfl
        try simp only [Act.put, List.setIfInBounds_toArray, List.set_cons_zero, List.set_cons_succ]
        refine wpAnyH_done (by kernel_rfl) ?_ _
        all_goals
          go_wp2_with fail
          refine (ds_holders HD2.out (by omega)).mono ?_
          rintro e w3 ⟨v3, rfl, hR3, hb3⟩
          obtain ⟨A3, c3, rfl, hrd3⟩ := own_rd hR3
          have HD3 := Lib.hid (HD2.out.later hb3)
          have HR3 := Lib.hid hR3
          have HRD3 := Lib.hid hrd3
          have HB3 := Lib.hid hb3
          have hz3 := hb3.size
          clear hR3 hrd3 hb3 e0 e1
          go_wp2_with fail
          refine (ds_rholders HD3.out (by omega) HF2.out).mono ?_
          rintro e w4 ⟨v4, rfl, hR4, hb4⟩
          obtain ⟨A4, c4, rfl, hrd4⟩ := own_rd hR4
          have HD4 := Lib.hid (HD3.out.later hb4)
          have HR4 := Lib.hid (ownsRow_below HR3.out hb4 (fun r hr => (HR3.out.lt r hr).2))
          have HRD3' := Lib.hid (HRD3.out.below hb4)
          have HRD4 := Lib.hid hrd4
          have hz4 := hb4.size
          have HB4 := Lib.hid (bnext HB3.out hb4)
          have hz34 := HB4.out.size
          have hhl := hold_length L2
          clear hR4 hrd4 hb4
          go_wp2_with fail
          refine (sameInts_yes _ _ _ _ _ _ (hold L2) _ HRD3'.out HRD4.out (by omega)).mono ?_
          rintro e w5 ⟨rfl, d, rfl⟩
          have HR5 := Lib.hid (show (w4.drewN d).ownsRow w2.heap.size 3 1 _ _ _ from HR4.out)
          go_wp2_with fail
          refine (overInts_any _ _ _ _ _ HR5.out).mono ?_
          rintro e w6 ⟨rfl, hg6⟩
          have HD6 := Lib.hid (HD2.out.later (Below.grown (bdrewN HB4.out d) hg6 hz34 (fun r hr => (HR3.out.lt r hr).1)))
          clear hg6
          go_wp2_with fail
          go_roundw
          case rel => exact ⟨k + 1, L2, by omega, by go_num, HD6.out, by omega, HF2.out⟩
          case measure => simp [intOf]; omega
      · obtain rfl : k = xs.length := by omega
        have HB := Lib.hid hS.1
        have hz := hS.2.1
        clear hS hf
        go_wp2_with fail
        refine (awake_any _).mono ?_
        rintro e w2 ⟨rfl, hb2⟩
        have HB2 := Lib.hid (bnext HB.out hb2)
        clear hb2
        go_wp2_with fail
        go_ret
        exact ⟨ret1_b rfl, HB2.out⟩

theorem contract {H : Type} {enc : TypeId × Value → H} (W : World) {base : Nat} {r : Reach} {b : Nat} {hd : Bool} {v0 v1 : Value} {d0 d1 : DataW H} {p0 p1 : List MemPlace}
    (o0 : Value.okWide Try.prog W r b 22 v0) (h0 : DataW.Trod enc Try.prog W base (fun _ => true) hd 22 v0 d0 p0)
    (o1 : Value.okWide Try.prog W r b 3 v1) (h1 : DataW.Trod enc Try.prog W base (fun _ => true) hd 3 v1 d1 p1) {Q R : Prop} (_ : Q) (_ : R) :
    Calls Try.prog 3 #[v0, v1] W fun e w' => e = .returned (.bool true) ∧ Below W.heap.size W w' := by
  obtain ⟨A, c, xs, rfl, hx, l1, l2⟩ := open_pairs_arg Try.underlying22 Try.underlying31 (by kernel_rfl) rfl rfl (by kernel_rfl) (by kernel_rfl) Try.underlying3 Try.underlying3 o0 h0
  obtain ⟨n, rfl, _, _, hn⟩ := open_int Try.underlying3 o1 h1
  exact walk A c xs n W hx (by omega) hn


theorem own : ownKnob Try.prog.godebug = none := by kernel_rfl
theorem laidOut : laidOutB Try.prog = true := by kernel_rfl
theorem readable : ∀ t ∈ Try.f3.params.toList, Try.prog.readableRec t = true ∧ t < Try.prog.types.size := by
  rw [show Try.f3.params = #[22, 3] from Try.params3]
  intro t h
  simp only [List.mem_cons, List.not_mem_nil, or_false] at h
  rcases h with rfl | rfl
  · exact ⟨by kernel_rfl, of_decide_eq_true (by kernel_rfl)⟩
  · exact ⟨by kernel_rfl, of_decide_eq_true (by kernel_rfl)⟩
set_option maxRecDepth 100000 in
theorem lifted (os : Os) (started : os.Started) (H : Type) (enc : TypeId × Value → H) :
    ReturnsInHanded {} Try.checked os 3 .any (Rows.fixScriptSpec.pre6 enc Try.prog Try.f3 Rows.fixScriptRow.domain false) (Rows.fixScriptSpec.post enc Try.prog Try.f3 false true false false) := by
  refine K.law_lift (C := Try.checked) (b := 4) own started (by kernel_rfl) Try.func3
    (ChangeSpec.witness6 (enc := enc) (C := Try.checked) false ⟨#[], #[.slice none 0 0, .int .i64 0], []⟩ 8 (by kernel_rfl) (by kernel_rfl) (by kernel_rfl) (by kernel_rfl)) laidOut readable rfl rfl Try.underlying4 ?_ ?_
  · intro ds hds
    rw [show Try.f3.params = #[22, 3] from Try.params3] at hds
    match ds, hds with
    | [d0, d1], _ => rfl
  · intro W base args ds p hval hA hlt hsz
    rw [show Try.checked.prog = Try.prog from rfl] at hval hA hsz
    rw [show Try.f3.params = #[22, 3] from Try.params3] at hA hval hsz
    obtain ⟨v0, vs0, d0, ds0, p0, q0, hargs, rfl, rfl, h0, r0⟩ := trodAll_cons hA
    obtain ⟨v1, vs1, d1, ds1, p1, q1, rfl, rfl, rfl, h1, r1⟩ := trodAll_cons r0
    obtain ⟨rfl, rfl, rfl⟩ := trodAll_nil r1
    obtain rfl : args = #[v0, v1] := by cases args; simp_all
    exact contract W (hval 0 22 v0 rfl rfl) h0 (hval 1 3 v1 rfl rfl) h1 (fun x hx => hlt x hx) hsz

theorem over : Rows.fixScriptRow.holds Try.pinned (OpenSpec.ofChange Rows.fixScriptSpec) :=
  OpenClaim.holds_of_wide 3 Try.f3 rfl rfl rfl rfl rfl rfl rfl ⟨rfl, rfl, rfl, rfl, rfl⟩ rfl rfl rfl rfl rfl (by kernel_rfl) Try.func3 (by kernel_rfl)
    (of_decide_eq_true (by kernel_rfl)) (by unfold Func.isWrapper; rw [if_neg (of_decide_eq_false (by kernel_rfl))]; exact ⟨rfl, rfl⟩)
    (fun os started H enc _ => lifted os started H enc)

/-- THE STATEMENT -/
theorem proved : Rows.FixScriptSaid := over
#print axioms proved
end Go.Proofs.Ytbldebjdgenfdaa.FixScript
