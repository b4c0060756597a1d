/- The helpers of the statements on arenas: Left, Used, takes, awake; and of an arena that nobody made. -/
import Derived.Test.YtnanacokclcbfaaArenaT
import Derived.Deep.OwnRows
namespace Go.Proofs.Ytnanacokclcbfaa.Ar
open Go.RowKit K
set_option linter.unusedVariables false
set_option linter.unusedSimpArgs false

theorem left_any (g all n : Nat) (B : Bks) (w : World) (F : Nat → Prop) (hT : AR w F g all n B) :
    Calls Try.prog 22 #[.pointer (some ⟨g, 0, none⟩)] w fun e w' => e = .returned (.int .i64 ((all : Int) - (used B : Int))) ∧ ∃ k, w' = w.drewN k := by
  obtain ⟨bm, D, fl, fg, fm, hB, hM, hD, h1, h2, h3⟩ := hT
  have c0 : w.cell? ⟨g, 0, none⟩ = some (.int .i64 (all : Int)) := by rw [hB.cell]; rfl
  have c1 : w.cell? ⟨g, 1, none⟩ = some (.int .i64 (used B : Int)) := by rw [hB.cell]; rfl
  have c3 : w.cell? ⟨g, 3, none⟩ = some (.map (some bm)) := by rw [hB.cell]; rfl
  clear hD hM hB
  go_enter Try.func22, Try.ntmps22
  go_wp2_with (go_at_call 27; refine (none_no g bm _ c3).mono ?_; rintro e w1 ⟨rfl, rfl⟩)
  go_quiet (fail)
  go_wp2_with fail
  go_ret
  exact ⟨ret1_i rfl, _, rfl⟩
theorem used_any (g all n : Nat) (B : Bks) (w : World) (F : Nat → Prop) (hT : AR w F g all n B) :
    Calls Try.prog 23 #[.pointer (some ⟨g, 0, none⟩)] w fun e w' => e = .returned (.int .i64 (used B : Int)) ∧ w = w' := by
  obtain ⟨bm, D, fl, fg, fm, hB, hM, hD, h1, h2, h3⟩ := hT
  have c1 : w.cell? ⟨g, 1, none⟩ = some (.int .i64 (used B : Int)) := by rw [hB.cell]; rfl
  have c3 : w.cell? ⟨g, 3, none⟩ = some (.map (some bm)) := by rw [hB.cell]; rfl
  clear hD hM hB
  go_enter Try.func23, Try.ntmps23
  go_wp2_with (go_at_call 27; refine (none_no g bm _ c3).mono ?_; rintro e w1 ⟨rfl, rfl⟩)
  go_ret
  exact ⟨ret1_i rfl, rfl⟩

/-- An arena of our own, made since w0. -/
def St (B0 : Nat) (w0 : World) (g all n : Nat) (B : Bks) (w : World) : Prop := Below B0 w0 w ∧ B0 ≤ w.heap.size ∧ ∃ F, AR w F g all n B ∧ ∀ k, F k → B0 ≤ k
theorem St.moved {B0 : Nat} {w0 w w' : World} {F : Nat → Prop} {g all n : Nat} {B : Bks} (h0 : Below B0 w0 w) (hz : B0 ≤ w.heap.size) (hF : ∀ k, F k → B0 ≤ k) (h : Moved w F g all n B w') : St B0 w0 g all n B w' := by
  obtain ⟨F', hT, hF', hK⟩ := h
  exact ⟨hK.below h0 hz (fun i hi hf => by have := hF i hf; omega), Nat.le_trans hz hK.size, F', hT, fun k hk => by rcases hF' k hk with h | h; exact hF k h; omega⟩
theorem St.grown {B0 : Nat} {w0 w w' : World} {g all n : Nat} {B : Bks} (h : St B0 w0 g all n B w) (hb : Below w.heap.size w w') : St B0 w0 g all n B w' := by
  obtain ⟨h1, h2, F, hT, hF⟩ := h
  exact ⟨h1.trans (hb.mono h2), Nat.le_trans h2 hb.size, F, hT.keep (Keep.new hb (F := fun k => w.heap.size ≤ k)) (fun r hr hs => by have := hT.lt r hr; omega), hF⟩
theorem St.drewN {B0 : Nat} {w0 w : World} {g all n : Nat} {B : Bks} (h : St B0 w0 g all n B w) (k : Nat) : St B0 w0 g all n B (w.drewN k) := by
  obtain ⟨h1, h2, F, hT, hF⟩ := h
  exact ⟨⟨h1.os, h1.tape, h1.output, h1.size, h1.block⟩, h2, F, hT.drewN k, hF⟩
theorem St.made {w0 w w' : World} {B0 g all : Nat} (h0 : Below B0 w0 w) (hz : B0 ≤ w.heap.size) (h : AR w' (fun k => w.heap.size ≤ k ∧ k < w'.heap.size) g all 0 []) (hb : Below w.heap.size w w') : St B0 w0 g all 0 [] w' :=
  ⟨h0.trans (hb.mono hz), Nat.le_trans hz hb.size, _, h, fun k hk => Nat.le_trans hz hk.1⟩

theorem infoU64' : (Try.prog.info? 68).map (fun i => (i.zero, i.size, i.bytes)) = some (some (.int .u64 0), 1, 8) := by kernel_rfl
theorem made_reads (w : World) (m : Nat) (hm : m ≤ maxLen) : Reads (w.alloc (.cells (madeCells #[Value.int .u64 0] m) 68)) (w.alloc (.cells (madeCells #[Value.int .u64 0] m) 68)).heap.size 1 (some ⟨w.heap.size, 0, none⟩) m (wds (List.replicate m 0)) := by
  have h := World.ownsRow_lit (e := 68) (size := 1) (base := 0) w (madeCells #[Value.int .u64 0] m) m (Nat.zero_le _) hm (by rw [size_madeCells]; simp)
  rw [toList_madeCells_one] at h
  have e : wds (List.replicate m 0) = List.replicate m (Value.int .u64 0) := by simp [wds]
  rw [e]
  exact Reads.of_own h

set_option maxRecDepth 100000 in
set_option maxHeartbeats 4000000 in
theorem takes_yes (B0 : Nat) (w0 : World) (g all n : Nat) (B : Bks) (m : Nat) (w : World) (hS : St B0 w0 g all n B w) (h1 : 1 ≤ m) (h2 : m ≤ 16777216) (hf : used B + rnd m ≤ all) (hn : n < 1099511627776) :
    Calls Try.prog 13 #[.pointer (some ⟨g, 0, none⟩), .int .i64 (m : Int), .int .i64 ((B.length : Int) + 1)] w fun e w' => e = .returned (.bool true) ∧ St B0 w0 g all (n + 1) (B ++ [some (List.replicate m 0)]) w' := by
  have hmk := run_make_row' (P := Try.prog) 32 68 (.int .u64 0) 8 Try.underlying32 infoU64' rfl .i64 .i64 m (by omega) (by omega)
  obtain ⟨b1, b2, F, hT, hF⟩ := hS
  have hg : g < w.heap.size := hT.lt g hT.choose_spec.choose_spec.2.1
  have hlen : (List.replicate m (0 : Int)).length = m := by simp
  have e1 : tkE all B m = 0 := by unfold tkE; rw [if_neg (by omega), if_pos hf]
  have e2 : tkN all B m = (B.length : Int) + 1 := by unfold tkN; rw [if_neg (by omega), if_pos hf]
  have e3 : tkB all B (List.replicate m 0) = B ++ [some (List.replicate m 0)] := by unfold tkB; rw [hlen, if_neg (by omega), if_pos hf]
  have hml : m ≤ maxLen := by unfold maxLen; omega
  have hK : Keep (fun k => w.heap.size ≤ k) w (w.alloc (.cells (madeCells #[Value.int .u64 0] m) 68)) := (Keep.refl _ _).alloc _
  have HT := take_any g all n B (some ⟨w.heap.size, 0, none⟩) m (List.replicate m 0) (w.alloc (.cells (madeCells #[Value.int .u64 0] m) 68)) F (hT.keep hK (fun r hr hs => by have := hT.lt r hr; omega)) (by rw [hlen]; exact made_reads w m hml) (by simp) (by intro ad had; injection had with had; subst had; simp; omega) (by rw [hlen]; exact hml) hn
  rw [hlen] at HT
  unfold TkPost at HT
  rw [hlen, e1, e2, e3] at HT
  have HH := Lib.hid HT
  have H1 := Lib.hid b1; have H2 := Lib.hid b2; have H3 := Lib.hid hF; have H4 := Lib.hid hf
  clear HT e1 e2 e3 hf hT hF b1 b2 hK hlen
  go_enter Try.func13, Try.ntmps13
  go_wp2_with (go_at_call 14; refine HH.out.mono ?_; rintro e w1 ⟨rfl, hm⟩; have HM := Lib.hid hm; clear hm)
  go_ret
  refine ⟨ret1_b rfl, St.moved (H1.out.alloc H2.out _) (by have := H2.out; simp; omega) H3.out HM.out⟩

theorem takes_lit {B0 : Nat} {w0 : World} {g all n : Nat} {B : Bks} {w : World} (hS : St B0 w0 g all n B w) (m : Nat) (mI kI : Int) (hm : mI = (m : Int)) (hk : kI = (B.length : Int) + 1) (h1 : 1 ≤ m) (h2 : m ≤ 16777216) (hf : used B + rnd m ≤ all) (hn : n < 1099511627776) :
    Calls Try.prog 13 #[.pointer (some ⟨g, 0, none⟩), .int .i64 mI, .int .i64 kI] w fun e w' => e = .returned (.bool true) ∧ St B0 w0 g all (n + 1) (B ++ [some (List.replicate m 0)]) w' := by
  subst hm hk
  exact takes_yes B0 w0 g all n B m w hS h1 h2 hf hn
theorem round_lit (n r : Nat) (nI rI : Int) (hn : nI = (n : Int)) (hr : rI = (r : Int)) (h : rnd n = r) (h1 : 1 ≤ n) (h2 : n ≤ 16777216) (w : World) :
    Calls Try.prog 9 #[.int .i64 nI] w fun e w' => e = .returned (.int .i64 rI) ∧ w = w' := by
  subst hn hr
  rw [← h]
  exact round_nat n h1 h2 w
theorem left_lit {B0 : Nat} {w0 : World} {g all n : Nat} {B : Bks} {w : World} (hS : St B0 w0 g all n B w) (l : Int) (h : (all : Int) - (used B : Int) = l) :
    Calls Try.prog 22 #[.pointer (some ⟨g, 0, none⟩)] w fun e w' => e = .returned (.int .i64 l) ∧ St B0 w0 g all n B w' := by
  obtain ⟨h1, h2, F, hT, hF⟩ := hS
  rw [← h]
  exact (left_any g all n B w F hT).mono fun e w' ⟨he, k, hw⟩ => ⟨he, by rw [hw]; exact St.drewN ⟨h1, h2, F, hT, hF⟩ k⟩
def z5 : List Int := List.replicate 5 0
def z3 : List Int := List.replicate 3 0

set_option maxRecDepth 100000 in
set_option maxHeartbeats 4000000 in
theorem awake_any (w : World) : Calls Try.prog 11 #[] w fun e w' => e = .returned (.bool true) ∧ Below w.heap.size w w' := by
  have r5 : rnd 5 = 6 := by decide
  have r3 : rnd 3 = 3 := by decide
  have u1 : used [] + rnd 5 ≤ 10 := by decide
  have u2 : used ([] ++ [some z5]) + rnd 3 ≤ 10 := by decide
  have u3 : ((10 : Nat) : Int) - (used (([] ++ [some z5]) ++ [some z3]) : Int) = 1 := by decide
  have hR1 := Lib.hid (fun w => round_lit 1 2 1 2 rfl rfl (by decide) (by omega) (by omega) w)
  have hR5 := Lib.hid (fun w => round_lit 5 6 5 6 rfl rfl r5 (by omega) (by omega) w)
  have U2 := Lib.hid u2; have U3 := Lib.hid u3; have U1 := Lib.hid u1
  clear u1 u2 u3 r5 r3
  go_enter Try.func11, Try.ntmps11
  go_wp2_with (go_at_call 12; refine (new_yes 10 (by omega) (by omega) _).mono ?_; rintro e w1 ⟨g, rfl, hT, hb⟩; have HS := Lib.hid (St.made (Below.refl _ _) (Nat.le_refl _) hT hb); clear hT hb)
  refine (hR1.out _).mono ?_
  rintro e w2 ⟨rfl, rfl⟩
  go_wp2_with fail
  refine (hR5.out _).mono ?_
  rintro e w2 ⟨rfl, rfl⟩
  go_wp2_with fail
  refine (takes_lit HS.out 5 5 1 rfl rfl (by omega) (by omega) U1.out (by omega)).mono ?_
  rintro e w3 ⟨rfl, h3⟩
  have HS3 := Lib.hid h3
  clear h3
  go_wp2_with fail
  refine (takes_lit HS3.out 3 3 2 rfl rfl (by omega) (by omega) U2.out (by omega)).mono ?_
  rintro e w4 ⟨rfl, h4⟩
  have HS4 := Lib.hid h4
  clear h4
  go_wp2_with fail
  refine (left_lit HS4.out 1 U3.out).mono ?_
  rintro e w5 ⟨rfl, h5⟩
  have hb5 := h5.1
  clear h5
  go_wp2_with fail
  go_ret
  exact ⟨ret1_b rfl, hb5⟩
end Go.Proofs.Ytnanacokclcbfaa.Ar
