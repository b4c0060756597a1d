/- The law PatternKnown returns true: the chapter's examples. -/
import Derived.Test.YtlaplakaifmpeaaPatVal2
import Derived.Test.YtlaplakaifmpeaaSameInts
namespace Go.Proofs.Ytlaplakaifmpeaa.PatternKnown
open Go.RowKit K Pt
open Go.ChangeShapes Go.WideShapes Go.ChangeAt
set_option linter.unusedVariables false
set_option linter.unusedSimpArgs false

set_option maxRecDepth 100000 in
set_option maxHeartbeats 16000000 in
theorem walk (w : World) : Calls Try.prog 8 #[] w fun e w' => e = .returned (.bool true) ∧ Below w.heap.size w w' := by
  have HV0 := Lib.hid (fun w => v0_val w)
  have HV1 := Lib.hid (fun w => v1_val w)
  have HV2 := Lib.hid (fun w => v2_val w)
  have HA := Lib.hid (fun s w => a_val s w)
  have HI := Lib.hid (fun n w => i_val n w)
  have HT := Lib.hid (fun A m c w => t_val A m c w)
  go_enter Try.func8, Try.ntmps8
  go_wp2_with fail
  refine (HA.out _ _).mono ?_
  rintro e w1 ⟨rfl, hb1⟩
  have HB1 := Lib.hid hb1
  clear hb1
  go_wp2_with fail
  refine (HA.out _ _).mono ?_
  rintro e w2 ⟨rfl, hb2⟩
  have HB2 := Lib.hid (bnext HB1.out hb2)
  clear hb2
  go_wp2_with fail
  refine (HA.out _ _).mono ?_
  rintro e w3 ⟨rfl, hb3⟩
  have HB3 := Lib.hid (bnext HB2.out hb3)
  clear hb3
  go_wp2_with fail
  obtain ⟨W3, hW3⟩ : ∃ W3, (((w3.alloc (.cells #[.int .i64 2, .int .i64 0, .string ⟨#[97]⟩, .slice none 0 0] 24)).alloc (.cells #[.int .i64 2, .int .i64 0, .string ⟨#[120]⟩, .slice none 0 0] 24)).alloc (.cells #[.int .i64 2, .int .i64 0, .string ⟨#[121]⟩, .slice none 0 0] 24)) = W3 := ⟨_, rfl⟩
  have hga : Blk W3 w3.heap.size 24 #[.int .i64 2, .int .i64 0, .string ⟨#[97]⟩, .slice none 0 0] := by rw [← hW3]; exact ((Blk.new _ _ _).alloc _).alloc _
  have hgx : Blk W3 (w3.heap.size + 1) 24 #[.int .i64 2, .int .i64 0, .string ⟨#[120]⟩, .slice none 0 0] := by
    rw [← hW3]
    have := Blk.new (w3.alloc (.cells #[.int .i64 2, .int .i64 0, .string ⟨#[97]⟩, .slice none 0 0] 24)) 24 #[.int .i64 2, .int .i64 0, .string ⟨#[120]⟩, .slice none 0 0]
    simp only [World.size_alloc] at this
    exact this.alloc _
  have hgy : Blk W3 (w3.heap.size + 1 + 1) 24 #[.int .i64 2, .int .i64 0, .string ⟨#[121]⟩, .slice none 0 0] := by
    rw [← hW3]
    have := Blk.new ((w3.alloc (.cells #[.int .i64 2, .int .i64 0, .string ⟨#[97]⟩, .slice none 0 0] 24)).alloc (.cells #[.int .i64 2, .int .i64 0, .string ⟨#[120]⟩, .slice none 0 0] 24)) 24 #[.int .i64 2, .int .i64 0, .string ⟨#[121]⟩, .slice none 0 0]
    simp only [World.size_alloc] at this
    exact this
  have HW3 := Lib.hid (show Below w.heap.size w W3 from by rw [← hW3]; exact ballocs (ballocs (ballocs HB3.out _) _) _)
  have HS := Lib.hid (show ∀ wx, Below W3.heap.size W3 wx → (wx.cell? ⟨w3.heap.size, 0, none⟩ = some (.int .i64 2) ∧ wx.cell? ⟨w3.heap.size, 1, none⟩ = some (.int .i64 0) ∧ wx.cell? ⟨w3.heap.size, 2, none⟩ = some (.string ⟨#[97]⟩) ∧ wx.cell? ⟨w3.heap.size, 3, none⟩ = some (.slice none 0 0) ∧ wx.cell? ⟨w3.heap.size + 1, 0, none⟩ = some (.int .i64 2) ∧ wx.cell? ⟨w3.heap.size + 1, 1, none⟩ = some (.int .i64 0) ∧ wx.cell? ⟨w3.heap.size + 1, 2, none⟩ = some (.string ⟨#[120]⟩) ∧ wx.cell? ⟨w3.heap.size + 1, 3, none⟩ = some (.slice none 0 0) ∧ wx.cell? ⟨w3.heap.size + 1 + 1, 0, none⟩ = some (.int .i64 2) ∧ wx.cell? ⟨w3.heap.size + 1 + 1, 1, none⟩ = some (.int .i64 0) ∧ wx.cell? ⟨w3.heap.size + 1 + 1, 2, none⟩ = some (.string ⟨#[121]⟩) ∧ wx.cell? ⟨w3.heap.size + 1 + 1, 3, none⟩ = some (.slice none 0 0)) from fun wx hb => by
    obtain ⟨p0, p1, p2, p3, _, _, _, _⟩ := (hga.below hb hga.lt).four
    obtain ⟨s0, s1, s2, s3, _, _, _, _⟩ := (hgx.below hb hgx.lt).four
    obtain ⟨y0, y1, y2, y3, _, _, _, _⟩ := (hgy.below hb hgy.lt).four
    exact ⟨p0, p1, p2, p3, s0, s1, s2, s3, y0, y1, y2, y3⟩)
  rw [hW3]
  clear hga hgx hgy hW3
  refine (HA.out _ _).mono ?_
  rintro e w4 ⟨rfl, hb4⟩
  have HB4 := Lib.hid hb4
  clear hb4
  go_wp2_with fail
  refine (var_any S01 _ w4 (sym_leaf w4 ⟨#[36, 48, 49]⟩ (by decide)) (nodes_leaf1 _ _ _)).mono ?_
  rw [var_S01]
  rintro e w5 ⟨rfl, hb5⟩
  have HB5 := Lib.hid (bnext HB4.out hb5)
  clear hb5
  unfold numV
  go_wp2_with fail
  refine (HA.out _ _).mono ?_
  rintro e w6 ⟨rfl, hb6⟩
  have HB6 := Lib.hid (bnext HB5.out hb6)
  clear hb6
  go_wp2_with fail
  refine (var_any S100 _ w6 (sym_leaf w6 ⟨#[36, 49, 48, 48]⟩ (by decide)) (nodes_leaf1 _ _ _)).mono ?_
  rw [var_S100]
  rintro e w7 ⟨rfl, hb7⟩
  have HB7 := Lib.hid (bnext HB6.out hb7)
  clear hb7
  unfold numV
  go_wp2_with fail
  refine wp_region_by (by kernel_rfl) (by kernel_rfl) (fun L a' wx => ∃ x33 x34 x35 x36 x37 x38 x39 x40 x41 x32 x42 x43 x8 x9, a' = { tmps := #[Value.bool false, Value.pointer (some { block := w3.heap.size, off := 0 }), Value.pointer (some { block := w3.heap.size + 1, off := 0 }), Value.pointer (some { block := w3.heap.size + 1 + 1, off := 0 }), Value.int IntKind.i64 0, Value.bool false, Value.int IntKind.i64 0, Value.bool false, x8, x9, undef, undef, undef, undef, undef, undef, undef, undef, undef, Value.agg #[Value.int IntKind.i64 2, Value.int IntKind.i64 0, Value.string { data := #[97] }, Value.slice none 0 0], Value.agg #[Value.int IntKind.i64 2, Value.int IntKind.i64 0, Value.string { data := #[120] }, Value.slice none 0 0], Value.agg #[Value.int IntKind.i64 2, Value.int IntKind.i64 0, Value.string { data := #[121] }, Value.slice none 0 0], Value.tuple #[Value.int IntKind.i64 0, Value.bool false], Value.agg #[Value.int IntKind.i64 2, Value.int IntKind.i64 0, Value.string { data := #[36, 48, 49] }, Value.slice none 0 0], Value.tuple #[Value.int IntKind.i64 0, Value.bool false], Value.int IntKind.i64 0, Value.bool false, Value.tuple #[Value.int IntKind.i64 0, Value.bool false], Value.agg #[Value.int IntKind.i64 2, Value.int IntKind.i64 0, Value.string { data := #[36, 49, 48, 48] }, Value.slice none 0 0], Value.tuple #[Value.int IntKind.i64 0, Value.bool false], Value.int IntKind.i64 0, Value.bool false, x32, x33, x34, x35, x36, x37, x38, x39, x40, x41, x42, x43, undef, undef, undef, undef, undef, undef, undef, undef, undef, undef, undef, undef, undef, undef, undef, undef, undef, undef, undef, undef, undef, undef, undef, undef, undef, undef, undef, undef, undef, undef, undef, undef, undef, undef, undef, undef, undef, undef, undef, undef, undef, undef, undef, undef, undef, undef, undef, undef, undef, undef, undef, undef, undef, undef, undef, undef, undef, undef, undef, undef, undef, undef, undef, undef, undef, undef, undef, undef, undef, undef, undef, undef, undef, undef, undef, undef, undef, undef, undef, undef, undef, undef, undef, undef, undef, undef, undef, undef, undef, undef, undef, undef, undef, undef, undef, undef, undef, undef, undef, undef, undef, undef, undef, undef, undef, undef], defers := [] } ∧ Below w7.heap.size w7 wx ∧ (L 0 = true → x33 = .agg #[.int .i64 2, .int .i64 0, .string ⟨#[97]⟩, .slice none 0 0]) ∧ (L 1 = true → x34 = .agg #[.int .i64 2, .int .i64 0, .string ⟨#[95]⟩, .slice none 0 0]) ∧ (L 2 = true → SlF 2 24 #[.int .i64 2, .int .i64 0, .string ⟨#[97]⟩, .slice none 0 0, .int .i64 2, .int .i64 0, .string ⟨#[95]⟩, .slice none 0 0] x35 wx) ∧ (L 3 = true → TpF T3 x36 wx) ∧ (L 4 = true → x37 = .agg #[.int .i64 2, .int .i64 0, .string ⟨#[97]⟩, .slice none 0 0]) ∧ (L 5 = true → x38 = .agg #[.int .i64 1, .int .i64 7, .string ⟨#[]⟩, .slice none 0 0]) ∧ (L 6 = true → SlF 2 24 #[.int .i64 2, .int .i64 0, .string ⟨#[97]⟩, .slice none 0 0, .int .i64 1, .int .i64 7, .string ⟨#[]⟩, .slice none 0 0] x39 wx) ∧ (L 7 = true → TpF T4 x40 wx) ∧ (L 8 = true → ∃ (A : Option Addr) (c : Nat), x41 = .tuple #[.slice A 0 c, .bool true]) ∧ (L 9 = true → ∃ (A : Option Addr) (c : Nat), x32 = .tuple #[.slice A 0 c, .bool true]) ∧ (L 10 = true → ∃ (A : Option Addr) (c : Nat), x42 = .slice A 0 c) ∧ (L 11 = true → x43 = .bool true) ∧ (L 12 = true → ∃ (A : Option Addr) (c : Nat), x8 = .slice A 0 c) ∧ (L 13 = true → x9 = .bool true)) ?_ ?_ ?_
  · exact ⟨undef, undef, undef, undef, undef, undef, undef, undef, undef, undef, undef, undef, undef, undef, rfl, btodrew (Below.refl _ _), nofun, nofun, nofun, nofun, nofun, nofun, nofun, nofun, nofun, nofun, nofun, nofun, nofun, nofun⟩
  rotate_left
  · rintro i o ho L a' wx ⟨x33, x34, x35, x36, x37, x38, x39, x40, x41, x32, x42, x43, x8, x9, rfl, hb, h0, h1, h2, h3, h4, h5, h6, h7, h8, h9, h10, h11, h12, h13⟩ hi hdep K hK
    rcases i with _ | _ | _ | _ | _ | _ | _ | _ | _ | _ | _ | _ | _ | _ | i
    · obtain rfl := Option.some.inj ho
      obtain ⟨a0, a1, a2, a3, b0, b1, b2, b3, y0, y1, y2, y3⟩ := HS.out wx (bnext HB7.out hb)
      go_simp
      exact hK _ _ ⟨_, x34, x35, x36, x37, x38, x39, x40, x41, x32, x42, x43, x8, x9, rfl, hb, fun _ => rfl, fun h => h1 (up_of (by decide) h), fun h => h2 (up_of (by decide) h), fun h => h3 (up_of (by decide) h), fun h => h4 (up_of (by decide) h), fun h => h5 (up_of (by decide) h), fun h => h6 (up_of (by decide) h), fun h => h7 (up_of (by decide) h), fun h => h8 (up_of (by decide) h), fun h => h9 (up_of (by decide) h), fun h => h10 (up_of (by decide) h), fun h => h11 (up_of (by decide) h), fun h => h12 (up_of (by decide) h), fun h => h13 (up_of (by decide) h)⟩
    · obtain rfl := Option.some.inj ho
      go_simp
      refine (HA.out _ wx).mono ?_
      rintro e wz ⟨rfl, hbz⟩
      exact hK _ _ ⟨x33, _, x35, x36, x37, x38, x39, x40, x41, x32, x42, x43, x8, x9, rfl, bnext hb (hbz), fun h => h0 (up_of (by decide) h), fun _ => rfl, fun h => (h2 (up_of (by decide) h)).later (hbz), fun h => (h3 (up_of (by decide) h)).later (hbz), fun h => h4 (up_of (by decide) h), fun h => h5 (up_of (by decide) h), fun h => (h6 (up_of (by decide) h)).later (hbz), fun h => (h7 (up_of (by decide) h)).later (hbz), fun h => h8 (up_of (by decide) h), fun h => h9 (up_of (by decide) h), fun h => h10 (up_of (by decide) h), fun h => h11 (up_of (by decide) h), fun h => h12 (up_of (by decide) h), fun h => h13 (up_of (by decide) h)⟩
    · obtain rfl := Option.some.inj ho
      obtain rfl := h0 (hdep ⟨0, .data⟩ (by simp) rfl)
      obtain rfl := h1 (hdep ⟨1, .data⟩ (by simp) rfl)
      go_simp
      exact hK _ _ ⟨_, _, _, x36, x37, x38, x39, x40, x41, x32, x42, x43, x8, x9, rfl, bnext hb (ballocs (Below.refl wx.heap.size wx) _), fun _ => rfl, fun _ => rfl, fun _ => ⟨wx.heap.size, rfl, Blk.new _ _ _⟩, fun h => (h3 (up_of (by decide) h)).later (ballocs (Below.refl wx.heap.size wx) _), fun h => h4 (up_of (by decide) h), fun h => h5 (up_of (by decide) h), fun h => (h6 (up_of (by decide) h)).later (ballocs (Below.refl wx.heap.size wx) _), fun h => (h7 (up_of (by decide) h)).later (ballocs (Below.refl wx.heap.size wx) _), fun h => h8 (up_of (by decide) h), fun h => h9 (up_of (by decide) h), fun h => h10 (up_of (by decide) h), fun h => h11 (up_of (by decide) h), fun h => h12 (up_of (by decide) h), fun h => h13 (up_of (by decide) h)⟩
    · obtain rfl := Option.some.inj ho
      obtain ⟨g, rfl, hg⟩ := h2 (hdep ⟨2, .data⟩ (by simp) rfl)
      go_simp
      refine (HT.out _ _ _ wx).mono ?_
      rintro e wz ⟨rfl, hbz⟩
      exact hK _ _ ⟨x33, x34, _, _, x37, x38, x39, x40, x41, x32, x42, x43, x8, x9, rfl, bnext hb (hbz), fun h => h0 (up_of (by decide) h), fun h => h1 (up_of (by decide) h), fun _ => ⟨g, rfl, hg.below hbz hg.lt⟩, fun _ => ⟨_, _, _, _, _, _, rfl, (ta_T3 hg).later hbz⟩, fun h => h4 (up_of (by decide) h), fun h => h5 (up_of (by decide) h), fun h => (h6 (up_of (by decide) h)).later (hbz), fun h => (h7 (up_of (by decide) h)).later (hbz), fun h => h8 (up_of (by decide) h), fun h => h9 (up_of (by decide) h), fun h => h10 (up_of (by decide) h), fun h => h11 (up_of (by decide) h), fun h => h12 (up_of (by decide) h), fun h => h13 (up_of (by decide) h)⟩
    · obtain rfl := Option.some.inj ho
      obtain ⟨a0, a1, a2, a3, b0, b1, b2, b3, y0, y1, y2, y3⟩ := HS.out wx (bnext HB7.out hb)
      go_simp
      exact hK _ _ ⟨x33, x34, x35, x36, _, x38, x39, x40, x41, x32, x42, x43, x8, x9, rfl, hb, fun h => h0 (up_of (by decide) h), fun h => h1 (up_of (by decide) h), fun h => h2 (up_of (by decide) h), fun h => h3 (up_of (by decide) h), fun _ => rfl, fun h => h5 (up_of (by decide) h), fun h => h6 (up_of (by decide) h), fun h => h7 (up_of (by decide) h), fun h => h8 (up_of (by decide) h), fun h => h9 (up_of (by decide) h), fun h => h10 (up_of (by decide) h), fun h => h11 (up_of (by decide) h), fun h => h12 (up_of (by decide) h), fun h => h13 (up_of (by decide) h)⟩
    · obtain rfl := Option.some.inj ho
      go_simp
      refine (HI.out _ wx).mono ?_
      rintro e wz ⟨rfl, hbz⟩
      exact hK _ _ ⟨x33, x34, x35, x36, x37, _, x39, x40, x41, x32, x42, x43, x8, x9, rfl, bnext hb (hbz), fun h => h0 (up_of (by decide) h), fun h => h1 (up_of (by decide) h), fun h => (h2 (up_of (by decide) h)).later (hbz), fun h => (h3 (up_of (by decide) h)).later (hbz), fun h => h4 (up_of (by decide) h), fun _ => rfl, fun h => (h6 (up_of (by decide) h)).later (hbz), fun h => (h7 (up_of (by decide) h)).later (hbz), fun h => h8 (up_of (by decide) h), fun h => h9 (up_of (by decide) h), fun h => h10 (up_of (by decide) h), fun h => h11 (up_of (by decide) h), fun h => h12 (up_of (by decide) h), fun h => h13 (up_of (by decide) h)⟩
    · obtain rfl := Option.some.inj ho
      obtain rfl := h4 (hdep ⟨4, .data⟩ (by simp) rfl)
      obtain rfl := h5 (hdep ⟨5, .data⟩ (by simp) rfl)
      go_simp
      exact hK _ _ ⟨x33, x34, x35, x36, _, _, _, x40, x41, x32, x42, x43, x8, x9, rfl, bnext hb (ballocs (Below.refl wx.heap.size wx) _), fun h => h0 (up_of (by decide) h), fun h => h1 (up_of (by decide) h), fun h => (h2 (up_of (by decide) h)).later (ballocs (Below.refl wx.heap.size wx) _), fun h => (h3 (up_of (by decide) h)).later (ballocs (Below.refl wx.heap.size wx) _), fun _ => rfl, fun _ => rfl, fun _ => ⟨wx.heap.size, rfl, Blk.new _ _ _⟩, fun h => (h7 (up_of (by decide) h)).later (ballocs (Below.refl wx.heap.size wx) _), fun h => h8 (up_of (by decide) h), fun h => h9 (up_of (by decide) h), fun h => h10 (up_of (by decide) h), fun h => h11 (up_of (by decide) h), fun h => h12 (up_of (by decide) h), fun h => h13 (up_of (by decide) h)⟩
    · obtain rfl := Option.some.inj ho
      obtain ⟨g, rfl, hg⟩ := h6 (hdep ⟨6, .data⟩ (by simp) rfl)
      go_simp
      refine (HT.out _ _ _ wx).mono ?_
      rintro e wz ⟨rfl, hbz⟩
      exact hK _ _ ⟨x33, x34, x35, x36, x37, x38, _, _, x41, x32, x42, x43, x8, x9, rfl, bnext hb (hbz), fun h => h0 (up_of (by decide) h), fun h => h1 (up_of (by decide) h), fun h => (h2 (up_of (by decide) h)).later (hbz), fun h => (h3 (up_of (by decide) h)).later (hbz), fun h => h4 (up_of (by decide) h), fun h => h5 (up_of (by decide) h), fun _ => ⟨g, rfl, hg.below hbz hg.lt⟩, fun _ => ⟨_, _, _, _, _, _, rfl, (ta_T4 hg).later hbz⟩, fun h => h8 (up_of (by decide) h), fun h => h9 (up_of (by decide) h), fun h => h10 (up_of (by decide) h), fun h => h11 (up_of (by decide) h), fun h => h12 (up_of (by decide) h), fun h => h13 (up_of (by decide) h)⟩
    · obtain rfl := Option.some.inj ho
      obtain ⟨kp, mp, sp, Ap, np, cp, rfl, htp⟩ := h3 (hdep ⟨3, .data⟩ (by simp) rfl)
      obtain ⟨kt, mt, st, At, nt, ct, rfl, htt⟩ := h7 (hdep ⟨7, .data⟩ (by simp) rfl)
      go_simp
      refine (pmatch_any T3 T4 _ _ wx htp htt nodes_T3 nodes_T4).mono ?_
      rw [more_T3]
      rintro e wz hm
      obtain ⟨hbz, Am, cm, rfl, _⟩ := hm.yes
      exact hK _ _ ⟨x33, x34, x35, _, x37, x38, x39, _, _, x32, x42, x43, x8, x9, rfl, bnext hb (hbz), fun h => h0 (up_of (by decide) h), fun h => h1 (up_of (by decide) h), fun h => (h2 (up_of (by decide) h)).later (hbz), fun _ => ⟨_, _, _, _, _, _, rfl, htp.later hbz⟩, fun h => h4 (up_of (by decide) h), fun h => h5 (up_of (by decide) h), fun h => (h6 (up_of (by decide) h)).later (hbz), fun _ => ⟨_, _, _, _, _, _, rfl, htt.later hbz⟩, fun _ => ⟨Am, cm, rfl⟩, fun h => h9 (up_of (by decide) h), fun h => h10 (up_of (by decide) h), fun h => h11 (up_of (by decide) h), fun h => h12 (up_of (by decide) h), fun h => h13 (up_of (by decide) h)⟩
    · obtain rfl := Option.some.inj ho
      obtain ⟨Am, cm, rfl⟩ := h8 (hdep ⟨8, .data⟩ (by simp) rfl)
      go_simp
      exact hK _ _ ⟨x33, x34, x35, x36, x37, x38, x39, x40, _, _, x42, x43, x8, x9, rfl, hb, fun h => h0 (up_of (by decide) h), fun h => h1 (up_of (by decide) h), fun h => h2 (up_of (by decide) h), fun h => h3 (up_of (by decide) h), fun h => h4 (up_of (by decide) h), fun h => h5 (up_of (by decide) h), fun h => h6 (up_of (by decide) h), fun h => h7 (up_of (by decide) h), fun _ => ⟨_, _, rfl⟩, fun _ => ⟨_, _, rfl⟩, fun h => h10 (up_of (by decide) h), fun h => h11 (up_of (by decide) h), fun h => h12 (up_of (by decide) h), fun h => h13 (up_of (by decide) h)⟩
    · obtain rfl := Option.some.inj ho
      obtain ⟨Am, cm, rfl⟩ := h9 (hdep ⟨9, .data⟩ (by simp) rfl)
      go_simp
      exact hK _ _ ⟨x33, x34, x35, x36, x37, x38, x39, x40, x41, _, _, x43, x8, x9, rfl, hb, fun h => h0 (up_of (by decide) h), fun h => h1 (up_of (by decide) h), fun h => h2 (up_of (by decide) h), fun h => h3 (up_of (by decide) h), fun h => h4 (up_of (by decide) h), fun h => h5 (up_of (by decide) h), fun h => h6 (up_of (by decide) h), fun h => h7 (up_of (by decide) h), fun h => h8 (up_of (by decide) h), fun _ => ⟨_, _, rfl⟩, fun _ => ⟨_, _, rfl⟩, fun h => h11 (up_of (by decide) h), fun h => h12 (up_of (by decide) h), fun h => h13 (up_of (by decide) h)⟩
    · obtain rfl := Option.some.inj ho
      obtain ⟨Am, cm, rfl⟩ := h9 (hdep ⟨9, .data⟩ (by simp) rfl)
      go_simp
      exact hK _ _ ⟨x33, x34, x35, x36, x37, x38, x39, x40, x41, _, x42, _, x8, x9, rfl, hb, fun h => h0 (up_of (by decide) h), fun h => h1 (up_of (by decide) h), fun h => h2 (up_of (by decide) h), fun h => h3 (up_of (by decide) h), fun h => h4 (up_of (by decide) h), fun h => h5 (up_of (by decide) h), fun h => h6 (up_of (by decide) h), fun h => h7 (up_of (by decide) h), fun h => h8 (up_of (by decide) h), fun _ => ⟨_, _, rfl⟩, fun h => h10 (up_of (by decide) h), fun _ => rfl, fun h => h12 (up_of (by decide) h), fun h => h13 (up_of (by decide) h)⟩
    · obtain rfl := Option.some.inj ho
      obtain ⟨Am, cm, rfl⟩ := h10 (hdep ⟨10, .data⟩ (by simp) rfl)
      go_simp
      exact hK _ _ ⟨x33, x34, x35, x36, x37, x38, x39, x40, x41, x32, _, x43, _, x9, rfl, hb, fun h => h0 (up_of (by decide) h), fun h => h1 (up_of (by decide) h), fun h => h2 (up_of (by decide) h), fun h => h3 (up_of (by decide) h), fun h => h4 (up_of (by decide) h), fun h => h5 (up_of (by decide) h), fun h => h6 (up_of (by decide) h), fun h => h7 (up_of (by decide) h), fun h => h8 (up_of (by decide) h), fun h => h9 (up_of (by decide) h), fun _ => ⟨_, _, rfl⟩, fun h => h11 (up_of (by decide) h), fun _ => ⟨_, _, rfl⟩, fun h => h13 (up_of (by decide) h)⟩
    · obtain rfl := Option.some.inj ho
      obtain rfl := h11 (hdep ⟨11, .data⟩ (by simp) rfl)
      go_simp
      exact hK _ _ ⟨x33, x34, x35, x36, x37, x38, x39, x40, x41, x32, x42, _, x8, _, rfl, hb, fun h => h0 (up_of (by decide) h), fun h => h1 (up_of (by decide) h), fun h => h2 (up_of (by decide) h), fun h => h3 (up_of (by decide) h), fun h => h4 (up_of (by decide) h), fun h => h5 (up_of (by decide) h), fun h => h6 (up_of (by decide) h), fun h => h7 (up_of (by decide) h), fun h => h8 (up_of (by decide) h), fun h => h9 (up_of (by decide) h), fun h => h10 (up_of (by decide) h), fun _ => rfl, fun h => h12 (up_of (by decide) h), fun _ => rfl⟩
    · simp at ho
  rintro L a' w8 ⟨x33, x34, x35, x36, x37, x38, x39, x40, x41, x32, x42, x43, x8, x9, rfl, hb, h0, h1, h2, h3, h4, h5, h6, h7, h8, h9, h10, h11, h12, h13⟩ hL
  have f0 := h0 (hL 0 (by decide))
  have f1 := h1 (hL 1 (by decide))
  have f2 := h2 (hL 2 (by decide))
  have f3 := h3 (hL 3 (by decide))
  have f4 := h4 (hL 4 (by decide))
  have f5 := h5 (hL 5 (by decide))
  have f6 := h6 (hL 6 (by decide))
  have f7 := h7 (hL 7 (by decide))
  have f8 := h8 (hL 8 (by decide))
  have f9 := h9 (hL 9 (by decide))
  have f10 := h10 (hL 10 (by decide))
  have f11 := h11 (hL 11 (by decide))
  have f12 := h12 (hL 12 (by decide))
  have f13 := h13 (hL 13 (by decide))
  clear hL h0 h1 h2 h3 h4 h5 h6 h7 h8 h9 h10 h11 h12 h13
  obtain ⟨A8, c8, rfl⟩ := f12
  obtain rfl := f13
  have HB8 := Lib.hid (bnext HB7.out hb)
  clear f0 f1 f2 f3 f4 f5 f6 f7 f8 f9 f10 f11 hb
  go_wp2_with fail
  refine wp_region_by (by kernel_rfl) (by kernel_rfl) (fun L a' wx => ∃ x45 x46 x47 x48 x49 x50 x44 x51 x52 x10 x11, a' = { tmps := #[Value.bool false, Value.pointer (some { block := w3.heap.size, off := 0 }), Value.pointer (some { block := w3.heap.size + 1, off := 0 }), Value.pointer (some { block := w3.heap.size + 1 + 1, off := 0 }), Value.int IntKind.i64 0, Value.bool false, Value.int IntKind.i64 0, Value.bool false, Value.slice A8 0 c8, Value.bool true, x10, x11, undef, undef, undef, undef, undef, undef, undef, Value.agg #[Value.int IntKind.i64 2, Value.int IntKind.i64 0, Value.string { data := #[97] }, Value.slice none 0 0], Value.agg #[Value.int IntKind.i64 2, Value.int IntKind.i64 0, Value.string { data := #[120] }, Value.slice none 0 0], Value.agg #[Value.int IntKind.i64 2, Value.int IntKind.i64 0, Value.string { data := #[121] }, Value.slice none 0 0], Value.tuple #[Value.int IntKind.i64 0, Value.bool false], Value.agg #[Value.int IntKind.i64 2, Value.int IntKind.i64 0, Value.string { data := #[36, 48, 49] }, Value.slice none 0 0], Value.tuple #[Value.int IntKind.i64 0, Value.bool false], Value.int IntKind.i64 0, Value.bool false, Value.tuple #[Value.int IntKind.i64 0, Value.bool false], Value.agg #[Value.int IntKind.i64 2, Value.int IntKind.i64 0, Value.string { data := #[36, 49, 48, 48] }, Value.slice none 0 0], Value.tuple #[Value.int IntKind.i64 0, Value.bool false], Value.int IntKind.i64 0, Value.bool false, x32, x33, x34, x35, x36, x37, x38, x39, x40, x41, x42, x43, x44, x45, x46, x47, x48, x49, x50, x51, x52, undef, undef, undef, undef, undef, undef, undef, undef, undef, undef, undef, undef, undef, undef, undef, undef, undef, undef, undef, undef, undef, undef, undef, undef, undef, undef, undef, undef, undef, undef, undef, undef, undef, undef, undef, undef, undef, undef, undef, undef, undef, undef, undef, undef, undef, undef, undef, undef, undef, undef, undef, undef, undef, undef, undef, undef, undef, undef, undef, undef, undef, undef, undef, undef, undef, undef, undef, undef, undef, undef, undef, undef, undef, undef, undef, undef, undef, undef, undef, undef, undef, undef, undef, undef, undef, undef, undef, undef, undef, undef, undef, undef, undef, undef, undef, undef, undef], defers := [] } ∧ Below w8.heap.size w8 wx ∧ (L 0 = true → x45 = .agg #[.int .i64 2, .int .i64 0, .string ⟨#[36, 50]⟩, .slice none 0 0]) ∧ (L 1 = true → x46 = .agg #[.int .i64 2, .int .i64 0, .string ⟨#[120]⟩, .slice none 0 0]) ∧ (L 2 = true → x47 = .agg #[.int .i64 2, .int .i64 0, .string ⟨#[121]⟩, .slice none 0 0]) ∧ (L 3 = true → x48 = .agg #[.int .i64 2, .int .i64 2, .int .i64 0, .string ⟨#[121]⟩, .slice none 0 0]) ∧ (L 4 = true → SlF 1 35 #[.int .i64 2, .int .i64 2, .int .i64 0, .string ⟨#[121]⟩, .slice none 0 0] x49 wx) ∧ (L 5 = true → x50 = .tuple #[.slice none 0 0, .bool false]) ∧ (L 6 = true → x44 = .tuple #[.slice none 0 0, .bool false]) ∧ (L 7 = true → x51 = .slice none 0 0) ∧ (L 8 = true → x52 = .bool false) ∧ (L 9 = true → x10 = .slice none 0 0) ∧ (L 10 = true → x11 = .bool false)) ?_ ?_ ?_
  · exact ⟨undef, undef, undef, undef, undef, undef, undef, undef, undef, undef, undef, rfl, btodrew (Below.refl _ _), nofun, nofun, nofun, nofun, nofun, nofun, nofun, nofun, nofun, nofun, nofun⟩
  rotate_left
  · rintro i o ho L a' wx ⟨x45, x46, x47, x48, x49, x50, x44, x51, x52, x10, x11, rfl, hb, h0, h1, h2, h3, h4, h5, h6, h7, h8, h9, h10⟩ hi hdep K hK
    rcases i with _ | _ | _ | _ | _ | _ | _ | _ | _ | _ | _ | i
    · obtain rfl := Option.some.inj ho
      go_simp
      refine (HV2.out wx).mono ?_
      rintro e wz ⟨rfl, hbz⟩
      exact hK _ _ ⟨_, x46, x47, x48, x49, x50, x44, x51, x52, x10, x11, rfl, bnext hb (hbz), fun _ => rfl, fun h => h1 (up_of (by decide) h), fun h => h2 (up_of (by decide) h), fun h => h3 (up_of (by decide) h), fun h => (h4 (up_of (by decide) h)).later (hbz), fun h => h5 (up_of (by decide) h), fun h => h6 (up_of (by decide) h), fun h => h7 (up_of (by decide) h), fun h => h8 (up_of (by decide) h), fun h => h9 (up_of (by decide) h), fun h => h10 (up_of (by decide) h)⟩
    · obtain rfl := Option.some.inj ho
      obtain ⟨a0, a1, a2, a3, b0, b1, b2, b3, y0, y1, y2, y3⟩ := HS.out wx (bnext HB8.out hb)
      go_simp
      exact hK _ _ ⟨x45, _, x47, x48, x49, x50, x44, x51, x52, x10, x11, rfl, hb, fun h => h0 (up_of (by decide) h), fun _ => rfl, fun h => h2 (up_of (by decide) h), fun h => h3 (up_of (by decide) h), fun h => h4 (up_of (by decide) h), fun h => h5 (up_of (by decide) h), fun h => h6 (up_of (by decide) h), fun h => h7 (up_of (by decide) h), fun h => h8 (up_of (by decide) h), fun h => h9 (up_of (by decide) h), fun h => h10 (up_of (by decide) h)⟩
    · obtain rfl := Option.some.inj ho
      obtain ⟨a0, a1, a2, a3, b0, b1, b2, b3, y0, y1, y2, y3⟩ := HS.out wx (bnext HB8.out hb)
      go_simp
      exact hK _ _ ⟨x45, x46, _, x48, x49, x50, x44, x51, x52, x10, x11, rfl, hb, fun h => h0 (up_of (by decide) h), fun h => h1 (up_of (by decide) h), fun _ => rfl, fun h => h3 (up_of (by decide) h), fun h => h4 (up_of (by decide) h), fun h => h5 (up_of (by decide) h), fun h => h6 (up_of (by decide) h), fun h => h7 (up_of (by decide) h), fun h => h8 (up_of (by decide) h), fun h => h9 (up_of (by decide) h), fun h => h10 (up_of (by decide) h)⟩
    · obtain rfl := Option.some.inj ho
      obtain rfl := h2 (hdep ⟨2, .data⟩ (by simp) rfl)
      go_simp
      exact hK _ _ ⟨x45, x46, _, _, x49, x50, x44, x51, x52, x10, x11, rfl, hb, fun h => h0 (up_of (by decide) h), fun h => h1 (up_of (by decide) h), fun _ => rfl, fun _ => rfl, fun h => h4 (up_of (by decide) h), fun h => h5 (up_of (by decide) h), fun h => h6 (up_of (by decide) h), fun h => h7 (up_of (by decide) h), fun h => h8 (up_of (by decide) h), fun h => h9 (up_of (by decide) h), fun h => h10 (up_of (by decide) h)⟩
    · obtain rfl := Option.some.inj ho
      obtain rfl := h3 (hdep ⟨3, .data⟩ (by simp) rfl)
      go_simp
      exact hK _ _ ⟨x45, x46, x47, _, _, x50, x44, x51, x52, x10, x11, rfl, bnext hb (ballocs (Below.refl wx.heap.size wx) _), fun h => h0 (up_of (by decide) h), fun h => h1 (up_of (by decide) h), fun h => h2 (up_of (by decide) h), fun _ => rfl, fun _ => ⟨wx.heap.size, rfl, Blk.new _ _ _⟩, fun h => h5 (up_of (by decide) h), fun h => h6 (up_of (by decide) h), fun h => h7 (up_of (by decide) h), fun h => h8 (up_of (by decide) h), fun h => h9 (up_of (by decide) h), fun h => h10 (up_of (by decide) h)⟩
    · obtain rfl := Option.some.inj ho
      obtain rfl := h0 (hdep ⟨0, .data⟩ (by simp) rfl)
      obtain rfl := h1 (hdep ⟨1, .data⟩ (by simp) rfl)
      obtain ⟨gs, rfl, hgs⟩ := h4 (hdep ⟨4, .data⟩ (by simp) rfl)
      go_simp
      refine (more_any V2 SX [(2, SY)] _ _ (some ⟨gs, 0, none⟩) 1 wx (sym_leaf wx ⟨#[36, 50]⟩ (by decide)) (sym_leaf wx ⟨#[120]⟩ (by decide)) (bs_row1 hgs (sym_leaf wx ⟨#[121]⟩ (by decide))) (by simp [maxLen]) (nodes_leaf1 _ _ _) (nodes_leaf1 _ _ _) (fun q hq => by rw [List.mem_singleton.1 hq]; exact nodes_leaf1 _ _ _)).mono ?_
      rw [more_no]
      rintro e wz hm
      obtain ⟨hbz, rfl⟩ := hm.no
      exact hK _ _ ⟨_, _, x47, x48, _, _, x44, x51, x52, x10, x11, rfl, bnext hb (hbz), fun _ => rfl, fun _ => rfl, fun h => h2 (up_of (by decide) h), fun h => h3 (up_of (by decide) h), fun _ => ⟨_, rfl, hgs.below hbz hgs.lt⟩, fun _ => rfl, fun h => h6 (up_of (by decide) h), fun h => h7 (up_of (by decide) h), fun h => h8 (up_of (by decide) h), fun h => h9 (up_of (by decide) h), fun h => h10 (up_of (by decide) h)⟩
    · obtain rfl := Option.some.inj ho
      obtain rfl := h5 (hdep ⟨5, .data⟩ (by simp) rfl)
      go_simp
      exact hK _ _ ⟨x45, x46, x47, x48, x49, _, _, x51, x52, x10, x11, rfl, hb, fun h => h0 (up_of (by decide) h), fun h => h1 (up_of (by decide) h), fun h => h2 (up_of (by decide) h), fun h => h3 (up_of (by decide) h), fun h => h4 (up_of (by decide) h), fun _ => rfl, fun _ => rfl, fun h => h7 (up_of (by decide) h), fun h => h8 (up_of (by decide) h), fun h => h9 (up_of (by decide) h), fun h => h10 (up_of (by decide) h)⟩
    · obtain rfl := Option.some.inj ho
      obtain rfl := h6 (hdep ⟨6, .data⟩ (by simp) rfl)
      go_simp
      exact hK _ _ ⟨x45, x46, x47, x48, x49, x50, _, _, x52, x10, x11, rfl, hb, fun h => h0 (up_of (by decide) h), fun h => h1 (up_of (by decide) h), fun h => h2 (up_of (by decide) h), fun h => h3 (up_of (by decide) h), fun h => h4 (up_of (by decide) h), fun h => h5 (up_of (by decide) h), fun _ => rfl, fun _ => rfl, fun h => h8 (up_of (by decide) h), fun h => h9 (up_of (by decide) h), fun h => h10 (up_of (by decide) h)⟩
    · obtain rfl := Option.some.inj ho
      obtain rfl := h6 (hdep ⟨6, .data⟩ (by simp) rfl)
      go_simp
      exact hK _ _ ⟨x45, x46, x47, x48, x49, x50, _, x51, _, x10, x11, rfl, hb, fun h => h0 (up_of (by decide) h), fun h => h1 (up_of (by decide) h), fun h => h2 (up_of (by decide) h), fun h => h3 (up_of (by decide) h), fun h => h4 (up_of (by decide) h), fun h => h5 (up_of (by decide) h), fun _ => rfl, fun h => h7 (up_of (by decide) h), fun _ => rfl, fun h => h9 (up_of (by decide) h), fun h => h10 (up_of (by decide) h)⟩
    · obtain rfl := Option.some.inj ho
      obtain rfl := h7 (hdep ⟨7, .data⟩ (by simp) rfl)
      go_simp
      exact hK _ _ ⟨x45, x46, x47, x48, x49, x50, x44, _, x52, _, x11, rfl, hb, fun h => h0 (up_of (by decide) h), fun h => h1 (up_of (by decide) h), fun h => h2 (up_of (by decide) h), fun h => h3 (up_of (by decide) h), fun h => h4 (up_of (by decide) h), fun h => h5 (up_of (by decide) h), fun h => h6 (up_of (by decide) h), fun _ => rfl, fun h => h8 (up_of (by decide) h), fun _ => rfl, fun h => h10 (up_of (by decide) h)⟩
    · obtain rfl := Option.some.inj ho
      obtain rfl := h8 (hdep ⟨8, .data⟩ (by simp) rfl)
      go_simp
      exact hK _ _ ⟨x45, x46, x47, x48, x49, x50, x44, x51, _, x10, _, rfl, hb, fun h => h0 (up_of (by decide) h), fun h => h1 (up_of (by decide) h), fun h => h2 (up_of (by decide) h), fun h => h3 (up_of (by decide) h), fun h => h4 (up_of (by decide) h), fun h => h5 (up_of (by decide) h), fun h => h6 (up_of (by decide) h), fun h => h7 (up_of (by decide) h), fun _ => rfl, fun h => h9 (up_of (by decide) h), fun _ => rfl⟩
    · simp at ho
  rintro L a' w9 ⟨x45, x46, x47, x48, x49, x50, x44, x51, x52, x10, x11, rfl, hb, h0, h1, h2, h3, h4, h5, h6, h7, h8, h9, h10⟩ hL
  have f0 := h0 (hL 0 (by decide))
  have f1 := h1 (hL 1 (by decide))
  have f2 := h2 (hL 2 (by decide))
  have f3 := h3 (hL 3 (by decide))
  have f4 := h4 (hL 4 (by decide))
  have f5 := h5 (hL 5 (by decide))
  have f6 := h6 (hL 6 (by decide))
  have f7 := h7 (hL 7 (by decide))
  have f8 := h8 (hL 8 (by decide))
  have f9 := h9 (hL 9 (by decide))
  have f10 := h10 (hL 10 (by decide))
  clear hL h0 h1 h2 h3 h4 h5 h6 h7 h8 h9 h10
  obtain rfl := f9
  obtain rfl := f10
  have HB9 := Lib.hid (bnext HB8.out hb)
  clear f0 f1 f2 f3 f4 f5 f6 f7 f8 hb
  go_wp2_with fail
  refine wp_region_by (by kernel_rfl) (by kernel_rfl) (fun L a' wx => ∃ x54 x55 x56 x57 x58 x59 x53 x60 x61 x12 x13, a' = { tmps := #[Value.bool false, Value.pointer (some { block := w3.heap.size, off := 0 }), Value.pointer (some { block := w3.heap.size + 1, off := 0 }), Value.pointer (some { block := w3.heap.size + 1 + 1, off := 0 }), Value.int IntKind.i64 0, Value.bool false, Value.int IntKind.i64 0, Value.bool false, Value.slice A8 0 c8, Value.bool true, Value.slice none 0 0, Value.bool false, x12, x13, undef, undef, undef, undef, undef, Value.agg #[Value.int IntKind.i64 2, Value.int IntKind.i64 0, Value.string { data := #[97] }, Value.slice none 0 0], Value.agg #[Value.int IntKind.i64 2, Value.int IntKind.i64 0, Value.string { data := #[120] }, Value.slice none 0 0], Value.agg #[Value.int IntKind.i64 2, Value.int IntKind.i64 0, Value.string { data := #[121] }, Value.slice none 0 0], Value.tuple #[Value.int IntKind.i64 0, Value.bool false], Value.agg #[Value.int IntKind.i64 2, Value.int IntKind.i64 0, Value.string { data := #[36, 48, 49] }, Value.slice none 0 0], Value.tuple #[Value.int IntKind.i64 0, Value.bool false], Value.int IntKind.i64 0, Value.bool false, Value.tuple #[Value.int IntKind.i64 0, Value.bool false], Value.agg #[Value.int IntKind.i64 2, Value.int IntKind.i64 0, Value.string { data := #[36, 49, 48, 48] }, Value.slice none 0 0], Value.tuple #[Value.int IntKind.i64 0, Value.bool false], Value.int IntKind.i64 0, Value.bool false, x32, x33, x34, x35, x36, x37, x38, x39, x40, x41, x42, x43, x44, x45, x46, x47, x48, x49, x50, x51, x52, x53, x54, x55, x56, x57, x58, x59, x60, x61, undef, undef, undef, undef, undef, undef, undef, undef, undef, undef, undef, undef, undef, undef, undef, undef, undef, undef, undef, undef, undef, undef, undef, undef, undef, undef, undef, undef, undef, undef, undef, undef, undef, undef, undef, undef, undef, undef, undef, undef, undef, undef, undef, undef, undef, undef, undef, undef, undef, undef, undef, undef, undef, undef, undef, undef, undef, undef, undef, undef, undef, undef, undef, undef, undef, undef, undef, undef, undef, undef, undef, undef, undef, undef, undef, undef, undef, undef, undef, undef, undef, undef, undef, undef, undef, undef, undef, undef], defers := [] } ∧ Below w9.heap.size w9 wx ∧ (L 0 = true → x54 = .agg #[.int .i64 2, .int .i64 0, .string ⟨#[36, 50]⟩, .slice none 0 0]) ∧ (L 1 = true → x55 = .agg #[.int .i64 2, .int .i64 0, .string ⟨#[121]⟩, .slice none 0 0]) ∧ (L 2 = true → x56 = .agg #[.int .i64 2, .int .i64 0, .string ⟨#[121]⟩, .slice none 0 0]) ∧ (L 3 = true → x57 = .agg #[.int .i64 2, .int .i64 2, .int .i64 0, .string ⟨#[121]⟩, .slice none 0 0]) ∧ (L 4 = true → SlF 1 35 #[.int .i64 2, .int .i64 2, .int .i64 0, .string ⟨#[121]⟩, .slice none 0 0] x58 wx) ∧ (L 5 = true → ∃ (A : Option Addr) (c : Nat), x59 = .tuple #[.slice A 1 c, .bool true]) ∧ (L 6 = true → ∃ (A : Option Addr) (c : Nat), x53 = .tuple #[.slice A 1 c, .bool true]) ∧ (L 7 = true → ∃ (A : Option Addr) (c : Nat), x60 = .slice A 1 c) ∧ (L 8 = true → x61 = .bool true) ∧ (L 9 = true → ∃ (A : Option Addr) (c : Nat), x12 = .slice A 1 c) ∧ (L 10 = true → x13 = .bool true)) ?_ ?_ ?_
  · exact ⟨undef, undef, undef, undef, undef, undef, undef, undef, undef, undef, undef, rfl, btodrew (Below.refl _ _), nofun, nofun, nofun, nofun, nofun, nofun, nofun, nofun, nofun, nofun, nofun⟩
  rotate_left
  · rintro i o ho L a' wx ⟨x54, x55, x56, x57, x58, x59, x53, x60, x61, x12, x13, rfl, hb, h0, h1, h2, h3, h4, h5, h6, h7, h8, h9, h10⟩ hi hdep K hK
    rcases i with _ | _ | _ | _ | _ | _ | _ | _ | _ | _ | _ | i
    · obtain rfl := Option.some.inj ho
      go_simp
      refine (HV2.out wx).mono ?_
      rintro e wz ⟨rfl, hbz⟩
      exact hK _ _ ⟨_, x55, x56, x57, x58, x59, x53, x60, x61, x12, x13, rfl, bnext hb (hbz), fun _ => rfl, fun h => h1 (up_of (by decide) h), fun h => h2 (up_of (by decide) h), fun h => h3 (up_of (by decide) h), fun h => (h4 (up_of (by decide) h)).later (hbz), fun h => h5 (up_of (by decide) h), fun h => h6 (up_of (by decide) h), fun h => h7 (up_of (by decide) h), fun h => h8 (up_of (by decide) h), fun h => h9 (up_of (by decide) h), fun h => h10 (up_of (by decide) h)⟩
    · obtain rfl := Option.some.inj ho
      obtain ⟨a0, a1, a2, a3, b0, b1, b2, b3, y0, y1, y2, y3⟩ := HS.out wx (bnext HB9.out hb)
      go_simp
      exact hK _ _ ⟨x54, _, x56, x57, x58, x59, x53, x60, x61, x12, x13, rfl, hb, fun h => h0 (up_of (by decide) h), fun _ => rfl, fun h => h2 (up_of (by decide) h), fun h => h3 (up_of (by decide) h), fun h => h4 (up_of (by decide) h), fun h => h5 (up_of (by decide) h), fun h => h6 (up_of (by decide) h), fun h => h7 (up_of (by decide) h), fun h => h8 (up_of (by decide) h), fun h => h9 (up_of (by decide) h), fun h => h10 (up_of (by decide) h)⟩
    · obtain rfl := Option.some.inj ho
      obtain ⟨a0, a1, a2, a3, b0, b1, b2, b3, y0, y1, y2, y3⟩ := HS.out wx (bnext HB9.out hb)
      go_simp
      exact hK _ _ ⟨x54, x55, _, x57, x58, x59, x53, x60, x61, x12, x13, rfl, hb, fun h => h0 (up_of (by decide) h), fun h => h1 (up_of (by decide) h), fun _ => rfl, fun h => h3 (up_of (by decide) h), fun h => h4 (up_of (by decide) h), fun h => h5 (up_of (by decide) h), fun h => h6 (up_of (by decide) h), fun h => h7 (up_of (by decide) h), fun h => h8 (up_of (by decide) h), fun h => h9 (up_of (by decide) h), fun h => h10 (up_of (by decide) h)⟩
    · obtain rfl := Option.some.inj ho
      obtain rfl := h2 (hdep ⟨2, .data⟩ (by simp) rfl)
      go_simp
      exact hK _ _ ⟨x54, x55, _, _, x58, x59, x53, x60, x61, x12, x13, rfl, hb, fun h => h0 (up_of (by decide) h), fun h => h1 (up_of (by decide) h), fun _ => rfl, fun _ => rfl, fun h => h4 (up_of (by decide) h), fun h => h5 (up_of (by decide) h), fun h => h6 (up_of (by decide) h), fun h => h7 (up_of (by decide) h), fun h => h8 (up_of (by decide) h), fun h => h9 (up_of (by decide) h), fun h => h10 (up_of (by decide) h)⟩
    · obtain rfl := Option.some.inj ho
      obtain rfl := h3 (hdep ⟨3, .data⟩ (by simp) rfl)
      go_simp
      exact hK _ _ ⟨x54, x55, x56, _, _, x59, x53, x60, x61, x12, x13, rfl, bnext hb (ballocs (Below.refl wx.heap.size wx) _), fun h => h0 (up_of (by decide) h), fun h => h1 (up_of (by decide) h), fun h => h2 (up_of (by decide) h), fun _ => rfl, fun _ => ⟨wx.heap.size, rfl, Blk.new _ _ _⟩, fun h => h5 (up_of (by decide) h), fun h => h6 (up_of (by decide) h), fun h => h7 (up_of (by decide) h), fun h => h8 (up_of (by decide) h), fun h => h9 (up_of (by decide) h), fun h => h10 (up_of (by decide) h)⟩
    · obtain rfl := Option.some.inj ho
      obtain rfl := h0 (hdep ⟨0, .data⟩ (by simp) rfl)
      obtain rfl := h1 (hdep ⟨1, .data⟩ (by simp) rfl)
      obtain ⟨gs, rfl, hgs⟩ := h4 (hdep ⟨4, .data⟩ (by simp) rfl)
      go_simp
      refine (more_any V2 SY [(2, SY)] _ _ (some ⟨gs, 0, none⟩) 1 wx (sym_leaf wx ⟨#[36, 50]⟩ (by decide)) (sym_leaf wx ⟨#[121]⟩ (by decide)) (bs_row1 hgs (sym_leaf wx ⟨#[121]⟩ (by decide))) (by simp [maxLen]) (nodes_leaf1 _ _ _) (nodes_leaf1 _ _ _) (fun q hq => by rw [List.mem_singleton.1 hq]; exact nodes_leaf1 _ _ _)).mono ?_
      rw [more_yes]
      rintro e wz hm
      obtain ⟨hbz, Am, cm, rfl, _⟩ := hm.yes
      exact hK _ _ ⟨_, _, x56, x57, _, _, x53, x60, x61, x12, x13, rfl, bnext hb (hbz), fun _ => rfl, fun _ => rfl, fun h => h2 (up_of (by decide) h), fun h => h3 (up_of (by decide) h), fun _ => ⟨_, rfl, hgs.below hbz hgs.lt⟩, fun _ => ⟨Am, cm, rfl⟩, fun h => h6 (up_of (by decide) h), fun h => h7 (up_of (by decide) h), fun h => h8 (up_of (by decide) h), fun h => h9 (up_of (by decide) h), fun h => h10 (up_of (by decide) h)⟩
    · obtain rfl := Option.some.inj ho
      obtain ⟨Am, cm, rfl⟩ := h5 (hdep ⟨5, .data⟩ (by simp) rfl)
      go_simp
      exact hK _ _ ⟨x54, x55, x56, x57, x58, _, _, x60, x61, x12, x13, rfl, hb, fun h => h0 (up_of (by decide) h), fun h => h1 (up_of (by decide) h), fun h => h2 (up_of (by decide) h), fun h => h3 (up_of (by decide) h), fun h => h4 (up_of (by decide) h), fun _ => ⟨_, _, rfl⟩, fun _ => ⟨_, _, rfl⟩, fun h => h7 (up_of (by decide) h), fun h => h8 (up_of (by decide) h), fun h => h9 (up_of (by decide) h), fun h => h10 (up_of (by decide) h)⟩
    · obtain rfl := Option.some.inj ho
      obtain ⟨Am, cm, rfl⟩ := h6 (hdep ⟨6, .data⟩ (by simp) rfl)
      go_simp
      exact hK _ _ ⟨x54, x55, x56, x57, x58, x59, _, _, x61, x12, x13, rfl, hb, fun h => h0 (up_of (by decide) h), fun h => h1 (up_of (by decide) h), fun h => h2 (up_of (by decide) h), fun h => h3 (up_of (by decide) h), fun h => h4 (up_of (by decide) h), fun h => h5 (up_of (by decide) h), fun _ => ⟨_, _, rfl⟩, fun _ => ⟨_, _, rfl⟩, fun h => h8 (up_of (by decide) h), fun h => h9 (up_of (by decide) h), fun h => h10 (up_of (by decide) h)⟩
    · obtain rfl := Option.some.inj ho
      obtain ⟨Am, cm, rfl⟩ := h6 (hdep ⟨6, .data⟩ (by simp) rfl)
      go_simp
      exact hK _ _ ⟨x54, x55, x56, x57, x58, x59, _, x60, _, x12, x13, rfl, hb, fun h => h0 (up_of (by decide) h), fun h => h1 (up_of (by decide) h), fun h => h2 (up_of (by decide) h), fun h => h3 (up_of (by decide) h), fun h => h4 (up_of (by decide) h), fun h => h5 (up_of (by decide) h), fun _ => ⟨_, _, rfl⟩, fun h => h7 (up_of (by decide) h), fun _ => rfl, fun h => h9 (up_of (by decide) h), fun h => h10 (up_of (by decide) h)⟩
    · obtain rfl := Option.some.inj ho
      obtain ⟨Am, cm, rfl⟩ := h7 (hdep ⟨7, .data⟩ (by simp) rfl)
      go_simp
      exact hK _ _ ⟨x54, x55, x56, x57, x58, x59, x53, _, x61, _, x13, rfl, hb, fun h => h0 (up_of (by decide) h), fun h => h1 (up_of (by decide) h), fun h => h2 (up_of (by decide) h), fun h => h3 (up_of (by decide) h), fun h => h4 (up_of (by decide) h), fun h => h5 (up_of (by decide) h), fun h => h6 (up_of (by decide) h), fun _ => ⟨_, _, rfl⟩, fun h => h8 (up_of (by decide) h), fun _ => ⟨_, _, rfl⟩, fun h => h10 (up_of (by decide) h)⟩
    · obtain rfl := Option.some.inj ho
      obtain rfl := h8 (hdep ⟨8, .data⟩ (by simp) rfl)
      go_simp
      exact hK _ _ ⟨x54, x55, x56, x57, x58, x59, x53, x60, _, x12, _, rfl, hb, fun h => h0 (up_of (by decide) h), fun h => h1 (up_of (by decide) h), fun h => h2 (up_of (by decide) h), fun h => h3 (up_of (by decide) h), fun h => h4 (up_of (by decide) h), fun h => h5 (up_of (by decide) h), fun h => h6 (up_of (by decide) h), fun h => h7 (up_of (by decide) h), fun _ => rfl, fun h => h9 (up_of (by decide) h), fun _ => rfl⟩
    · simp at ho
  rintro L a' w10 ⟨x54, x55, x56, x57, x58, x59, x53, x60, x61, x12, x13, rfl, hb, h0, h1, h2, h3, h4, h5, h6, h7, h8, h9, h10⟩ hL
  have f0 := h0 (hL 0 (by decide))
  have f1 := h1 (hL 1 (by decide))
  have f2 := h2 (hL 2 (by decide))
  have f3 := h3 (hL 3 (by decide))
  have f4 := h4 (hL 4 (by decide))
  have f5 := h5 (hL 5 (by decide))
  have f6 := h6 (hL 6 (by decide))
  have f7 := h7 (hL 7 (by decide))
  have f8 := h8 (hL 8 (by decide))
  have f9 := h9 (hL 9 (by decide))
  have f10 := h10 (hL 10 (by decide))
  clear hL h0 h1 h2 h3 h4 h5 h6 h7 h8 h9 h10
  obtain ⟨A12, c12, rfl⟩ := f9
  obtain rfl := f10
  have HB10 := Lib.hid (bnext HB9.out hb)
  clear f0 f1 f2 f3 f4 f5 f6 f7 f8 hb
  go_wp2_with fail
  have hundef : ∀ k, undef ≠ ptr k := fun k h => by cases h
  refine wp_region_by (by kernel_rfl) (by kernel_rfl) (fun L a' wx => ∃ x63 x64 x65 x66 x67 x68 x69 x70 x62 x71 x72 x14 x15 tv0, a' = { tmps := #[Value.bool false, Value.pointer (some { block := w3.heap.size, off := 0 }), Value.pointer (some { block := w3.heap.size + 1, off := 0 }), Value.pointer (some { block := w3.heap.size + 1 + 1, off := 0 }), Value.int IntKind.i64 0, Value.bool false, Value.int IntKind.i64 0, Value.bool false, Value.slice A8 0 c8, Value.bool true, Value.slice none 0 0, Value.bool false, Value.slice A12 1 c12, Value.bool true, x14, x15, undef, undef, undef, Value.agg #[Value.int IntKind.i64 2, Value.int IntKind.i64 0, Value.string { data := #[97] }, Value.slice none 0 0], Value.agg #[Value.int IntKind.i64 2, Value.int IntKind.i64 0, Value.string { data := #[120] }, Value.slice none 0 0], Value.agg #[Value.int IntKind.i64 2, Value.int IntKind.i64 0, Value.string { data := #[121] }, Value.slice none 0 0], Value.tuple #[Value.int IntKind.i64 0, Value.bool false], Value.agg #[Value.int IntKind.i64 2, Value.int IntKind.i64 0, Value.string { data := #[36, 48, 49] }, Value.slice none 0 0], Value.tuple #[Value.int IntKind.i64 0, Value.bool false], Value.int IntKind.i64 0, Value.bool false, Value.tuple #[Value.int IntKind.i64 0, Value.bool false], Value.agg #[Value.int IntKind.i64 2, Value.int IntKind.i64 0, Value.string { data := #[36, 49, 48, 48] }, Value.slice none 0 0], Value.tuple #[Value.int IntKind.i64 0, Value.bool false], Value.int IntKind.i64 0, Value.bool false, x32, x33, x34, x35, x36, x37, x38, x39, x40, x41, x42, x43, x44, x45, x46, x47, x48, x49, x50, x51, x52, x53, x54, x55, x56, x57, x58, x59, x60, x61, x62, x63, x64, x65, x66, x67, x68, x69, x70, x71, x72, undef, undef, undef, undef, undef, undef, undef, undef, undef, undef, undef, undef, undef, undef, undef, undef, undef, undef, undef, undef, undef, undef, undef, undef, undef, undef, undef, undef, undef, undef, undef, undef, undef, undef, undef, undef, undef, undef, undef, undef, undef, undef, undef, undef, undef, undef, undef, undef, undef, undef, undef, undef, undef, undef, undef, undef, undef, undef, undef, undef, undef, undef, undef, undef, undef, undef, undef, undef, undef, undef, undef, undef, undef, undef, undef, undef, undef], defers := [] } ∧ Below w10.heap.size w10 wx ∧ (L 0 = true → x63 = .agg #[.int .i64 2, .int .i64 0, .string ⟨#[36, 49]⟩, .slice none 0 0]) ∧ (L 1 = true → x64 = .agg #[.int .i64 2, .int .i64 0, .string ⟨#[98]⟩, .slice none 0 0]) ∧ (L 2 = true → L 12 = false → SlF 2 24 #[.int .i64 2, .int .i64 0, .string ⟨#[36, 49]⟩, .slice none 0 0, .int .i64 2, .int .i64 0, .string ⟨#[98]⟩, .slice none 0 0] x65 wx) ∧ (L 3 = true → L 12 = false → TpF LP x66 wx) ∧ (L 4 = true → x67 = .agg #[.int .i64 2, .int .i64 0, .string ⟨#[97]⟩, .slice none 0 0]) ∧ (L 5 = true → x68 = .agg #[.int .i64 1, .int .i64 2, .int .i64 0, .string ⟨#[97]⟩, .slice none 0 0]) ∧ (L 6 = true → L 12 = false → SlF 1 35 #[.int .i64 1, .int .i64 2, .int .i64 0, .string ⟨#[97]⟩, .slice none 0 0] x69 wx) ∧ (L 7 = true → x70 = .tuple #[tv0, .bool true]) ∧ (L 8 = true → L 7 = true ∧ x62 = .tuple #[tv0, .bool true]) ∧ (L 9 = true → L 7 = true ∧ x71 = tv0) ∧ (L 10 = true → x72 = .bool true) ∧ (L 13 = true → x15 = .bool true) ∧ One w10.heap.size (fun u => u = LR) (L 7) (L 11) (L 12) tv0 x14 wx ∧ (L 12 = true → ∀ j, j < 12 → j ≠ 10 → L j = true)) ?_ ?_ ?_
  · exact ⟨undef, undef, undef, undef, undef, undef, undef, undef, undef, undef, undef, undef, undef, undef, rfl, btodrew (Below.refl _ _), nofun, nofun, nofun, nofun, nofun, nofun, nofun, nofun, nofun, nofun, nofun, nofun, One.start _ _ hundef, nofun⟩
  rotate_left
  · rintro i o ho L a' wx ⟨x63, x64, x65, x66, x67, x68, x69, x70, x62, x71, x72, x14, x15, tv0, rfl, hb, h0, h1, h2, h3, h4, h5, h6, h7, h8, h9, h10, h13, hO, hA⟩ hi hdep K hK
    rcases i with _ | _ | _ | _ | _ | _ | _ | _ | _ | _ | _ | _ | _ | _ | i
    · obtain rfl := Option.some.inj ho
      have hz : L 12 = false := by cases hc : L 12 with | false => rfl | true => exact absurd (hA hc 0 (by omega) (by omega)) (by rw [hi]; simp)
      go_simp
      refine (HV1.out wx).mono ?_
      rintro e wz ⟨rfl, hbz⟩
      exact hK _ _ ⟨_, x64, x65, x66, x67, x68, x69, x70, x62, x71, x72, x14, x15, tv0, rfl, bnext hb (hbz), fun _ => rfl, fun h => h1 (up_of (by decide) h), fun h _ => (h2 (up_of (by decide) h) hz).later (hbz), fun h _ => (h3 (up_of (by decide) h) hz).later (hbz), fun h => h4 (up_of (by decide) h), fun h => h5 (up_of (by decide) h), fun h _ => (h6 (up_of (by decide) h) hz).later (hbz), fun h => h7 (up_of (by decide) h), fun h => ⟨by have := (h8 (up_of (by decide) h)).1; simp [upto, this], (h8 (up_of (by decide) h)).2⟩, fun h => ⟨by have := (h9 (up_of (by decide) h)).1; simp [upto, this], (h9 (up_of (by decide) h)).2⟩, fun h => h10 (up_of (by decide) h), fun h => h13 (up_of (by decide) h), by simpa [upto] using hO.later (hbz), fun h => by simp [upto, hz] at h⟩
    · obtain rfl := Option.some.inj ho
      have hz : L 12 = false := by cases hc : L 12 with | false => rfl | true => exact absurd (hA hc 1 (by omega) (by omega)) (by rw [hi]; simp)
      go_simp
      refine (HA.out _ wx).mono ?_
      rintro e wz ⟨rfl, hbz⟩
      exact hK _ _ ⟨x63, _, x65, x66, x67, x68, x69, x70, x62, x71, x72, x14, x15, tv0, rfl, bnext hb (hbz), fun h => h0 (up_of (by decide) h), fun _ => rfl, fun h _ => (h2 (up_of (by decide) h) hz).later (hbz), fun h _ => (h3 (up_of (by decide) h) hz).later (hbz), fun h => h4 (up_of (by decide) h), fun h => h5 (up_of (by decide) h), fun h _ => (h6 (up_of (by decide) h) hz).later (hbz), fun h => h7 (up_of (by decide) h), fun h => ⟨by have := (h8 (up_of (by decide) h)).1; simp [upto, this], (h8 (up_of (by decide) h)).2⟩, fun h => ⟨by have := (h9 (up_of (by decide) h)).1; simp [upto, this], (h9 (up_of (by decide) h)).2⟩, fun h => h10 (up_of (by decide) h), fun h => h13 (up_of (by decide) h), by simpa [upto] using hO.later (hbz), fun h => by simp [upto, hz] at h⟩
    · obtain rfl := Option.some.inj ho
      have hz : L 12 = false := by cases hc : L 12 with | false => rfl | true => exact absurd (hA hc 2 (by omega) (by omega)) (by rw [hi]; simp)
      obtain rfl := h0 (hdep ⟨0, .data⟩ (by simp) rfl)
      obtain rfl := h1 (hdep ⟨1, .data⟩ (by simp) rfl)
      go_simp
      exact hK _ _ ⟨_, _, _, x66, x67, x68, x69, x70, x62, x71, x72, x14, x15, tv0, rfl, bnext hb (ballocs (Below.refl wx.heap.size wx) _), fun _ => rfl, fun _ => rfl, fun _ _ => ⟨wx.heap.size, rfl, Blk.new _ _ _⟩, fun h _ => (h3 (up_of (by decide) h) hz).later (ballocs (Below.refl wx.heap.size wx) _), fun h => h4 (up_of (by decide) h), fun h => h5 (up_of (by decide) h), fun h _ => (h6 (up_of (by decide) h) hz).later (ballocs (Below.refl wx.heap.size wx) _), fun h => h7 (up_of (by decide) h), fun h => ⟨by have := (h8 (up_of (by decide) h)).1; simp [upto, this], (h8 (up_of (by decide) h)).2⟩, fun h => ⟨by have := (h9 (up_of (by decide) h)).1; simp [upto, this], (h9 (up_of (by decide) h)).2⟩, fun h => h10 (up_of (by decide) h), fun h => h13 (up_of (by decide) h), by simpa [upto] using hO.later (ballocs (Below.refl wx.heap.size wx) _), fun h => by simp [upto, hz] at h⟩
    · obtain rfl := Option.some.inj ho
      have hz : L 12 = false := by cases hc : L 12 with | false => rfl | true => exact absurd (hA hc 3 (by omega) (by omega)) (by rw [hi]; simp)
      obtain ⟨g, rfl, hg⟩ := h2 (hdep ⟨2, .data⟩ (by simp) rfl) hz
      go_simp
      refine (l_any [V1, SB] (some ⟨g, 0, none⟩) 2 wx (ts_LP hg) (by simp [maxLen])).mono ?_
      rintro e wz ⟨kl, ml, sl, Bl, nl, dl, rfl, htl, hbz⟩
      exact hK _ _ ⟨x63, x64, _, _, x67, x68, x69, x70, x62, x71, x72, x14, x15, tv0, rfl, bnext hb (hbz), fun h => h0 (up_of (by decide) h), fun h => h1 (up_of (by decide) h), fun _ _ => ⟨g, rfl, hg.below hbz hg.lt⟩, fun _ _ => ⟨_, _, _, _, _, _, rfl, htl⟩, fun h => h4 (up_of (by decide) h), fun h => h5 (up_of (by decide) h), fun h _ => (h6 (up_of (by decide) h) hz).later (hbz), fun h => h7 (up_of (by decide) h), fun h => ⟨by have := (h8 (up_of (by decide) h)).1; simp [upto, this], (h8 (up_of (by decide) h)).2⟩, fun h => ⟨by have := (h9 (up_of (by decide) h)).1; simp [upto, this], (h9 (up_of (by decide) h)).2⟩, fun h => h10 (up_of (by decide) h), fun h => h13 (up_of (by decide) h), by simpa [upto] using hO.later (hbz), fun h => by simp [upto, hz] at h⟩
    · obtain rfl := Option.some.inj ho
      have hz : L 12 = false := by cases hc : L 12 with | false => rfl | true => exact absurd (hA hc 4 (by omega) (by omega)) (by rw [hi]; simp)
      obtain ⟨a0, a1, a2, a3, b0, b1, b2, b3, y0, y1, y2, y3⟩ := HS.out wx (bnext HB10.out hb)
      go_simp
      exact hK _ _ ⟨x63, x64, x65, x66, _, x68, x69, x70, x62, x71, x72, x14, x15, tv0, rfl, hb, fun h => h0 (up_of (by decide) h), fun h => h1 (up_of (by decide) h), fun h _ => h2 (up_of (by decide) h) hz, fun h _ => h3 (up_of (by decide) h) hz, fun _ => rfl, fun h => h5 (up_of (by decide) h), fun h _ => h6 (up_of (by decide) h) hz, fun h => h7 (up_of (by decide) h), fun h => ⟨by have := (h8 (up_of (by decide) h)).1; simp [upto, this], (h8 (up_of (by decide) h)).2⟩, fun h => ⟨by have := (h9 (up_of (by decide) h)).1; simp [upto, this], (h9 (up_of (by decide) h)).2⟩, fun h => h10 (up_of (by decide) h), fun h => h13 (up_of (by decide) h), by simpa [upto] using hO, fun h => by simp [upto, hz] at h⟩
    · obtain rfl := Option.some.inj ho
      have hz : L 12 = false := by cases hc : L 12 with | false => rfl | true => exact absurd (hA hc 5 (by omega) (by omega)) (by rw [hi]; simp)
      obtain rfl := h4 (hdep ⟨4, .data⟩ (by simp) rfl)
      go_simp
      exact hK _ _ ⟨x63, x64, x65, x66, _, _, x69, x70, x62, x71, x72, x14, x15, tv0, rfl, hb, fun h => h0 (up_of (by decide) h), fun h => h1 (up_of (by decide) h), fun h _ => h2 (up_of (by decide) h) hz, fun h _ => h3 (up_of (by decide) h) hz, fun _ => rfl, fun _ => rfl, fun h _ => h6 (up_of (by decide) h) hz, fun h => h7 (up_of (by decide) h), fun h => ⟨by have := (h8 (up_of (by decide) h)).1; simp [upto, this], (h8 (up_of (by decide) h)).2⟩, fun h => ⟨by have := (h9 (up_of (by decide) h)).1; simp [upto, this], (h9 (up_of (by decide) h)).2⟩, fun h => h10 (up_of (by decide) h), fun h => h13 (up_of (by decide) h), by simpa [upto] using hO, fun h => by simp [upto, hz] at h⟩
    · obtain rfl := Option.some.inj ho
      have hz : L 12 = false := by cases hc : L 12 with | false => rfl | true => exact absurd (hA hc 6 (by omega) (by omega)) (by rw [hi]; simp)
      obtain rfl := h5 (hdep ⟨5, .data⟩ (by simp) rfl)
      go_simp
      exact hK _ _ ⟨x63, x64, x65, x66, x67, _, _, x70, x62, x71, x72, x14, x15, tv0, rfl, bnext hb (ballocs (Below.refl wx.heap.size wx) _), fun h => h0 (up_of (by decide) h), fun h => h1 (up_of (by decide) h), fun h _ => (h2 (up_of (by decide) h) hz).later (ballocs (Below.refl wx.heap.size wx) _), fun h _ => (h3 (up_of (by decide) h) hz).later (ballocs (Below.refl wx.heap.size wx) _), fun h => h4 (up_of (by decide) h), fun _ => rfl, fun _ _ => ⟨wx.heap.size, rfl, Blk.new _ _ _⟩, fun h => h7 (up_of (by decide) h), fun h => ⟨by have := (h8 (up_of (by decide) h)).1; simp [upto, this], (h8 (up_of (by decide) h)).2⟩, fun h => ⟨by have := (h9 (up_of (by decide) h)).1; simp [upto, this], (h9 (up_of (by decide) h)).2⟩, fun h => h10 (up_of (by decide) h), fun h => h13 (up_of (by decide) h), by simpa [upto] using hO.later (ballocs (Below.refl wx.heap.size wx) _), fun h => by simp [upto, hz] at h⟩
    · obtain rfl := Option.some.inj ho
      have hz : L 12 = false := by cases hc : L 12 with | false => rfl | true => exact absurd (hA hc 7 (by omega) (by omega)) (by rw [hi]; simp)
      obtain ⟨kp, mp, sp, Ap, np, cp, rfl, htp⟩ := h3 (hdep ⟨3, .data⟩ (by simp) rfl) hz
      obtain ⟨gs, rfl, hgs⟩ := h6 (hdep ⟨6, .data⟩ (by simp) rfl) hz
      rw [hi] at hO
      go_simp
      refine (pfill_any LP [(1, SA)] _ (some ⟨gs, 0, none⟩) 1 wx htp (bs_row1 hgs (sym_leaf wx ⟨#[97]⟩ (by decide))) (by simp [maxLen]) nodes_LP (fun q hq => by rw [List.mem_singleton.1 hq]; simp [SA, tsym, nodes_eq, nodesL_nil])).mono ?_
      rw [filled_LP]
      rintro e wz ⟨hbz, (⟨ho, _⟩ | ⟨tt, At, ct, ho, rfl, hx9, _, _⟩)⟩
      · cases ho
      injection ho with ho
      subst ho
      exact hK _ _ ⟨x63, x64, x65, _, x67, x68, _, _, x62, x71, x72, x14, x15, _, rfl, bnext hb (hbz), fun h => h0 (up_of (by decide) h), fun h => h1 (up_of (by decide) h), fun h _ => (h2 (up_of (by decide) h) hz).later (hbz), fun _ _ => ⟨_, _, _, _, _, _, rfl, htp.later hbz⟩, fun h => h4 (up_of (by decide) h), fun h => h5 (up_of (by decide) h), fun _ _ => ⟨_, rfl, hgs.below hbz hgs.lt⟩, fun _ => rfl, fun h => absurd (h8 (up_of (by decide) h)).1 (by rw [hi]; simp), fun h => absurd (h9 (up_of (by decide) h)).1 (by rw [hi]; simp), fun h => h10 (up_of (by decide) h), fun h => h13 (up_of (by decide) h), by simpa [upto] using hO.call (a := LR) hb.size hbz (hx9.mono fun b hb => .inr hb) rfl, fun h => by simp [upto, hz] at h⟩
    · obtain rfl := Option.some.inj ho
      have hz : L 12 = false := by cases hc : L 12 with | false => rfl | true => exact absurd (hA hc 8 (by omega) (by omega)) (by rw [hi]; simp)
      obtain rfl := h7 (hdep ⟨7, .data⟩ (by simp) rfl)
      have H7T := Lib.hid (hdep ⟨7, .data⟩ (by simp) rfl)
      go_simp
      exact hK _ _ ⟨x63, x64, x65, x66, x67, x68, x69, _, _, x71, x72, x14, x15, tv0, rfl, hb, fun h => h0 (up_of (by decide) h), fun h => h1 (up_of (by decide) h), fun h _ => h2 (up_of (by decide) h) hz, fun h _ => h3 (up_of (by decide) h) hz, fun h => h4 (up_of (by decide) h), fun h => h5 (up_of (by decide) h), fun h _ => h6 (up_of (by decide) h) hz, fun _ => rfl, fun _ => ⟨by simpa [upto] using H7T.out, rfl⟩, fun h => ⟨by have := (h9 (up_of (by decide) h)).1; simp [upto, this], (h9 (up_of (by decide) h)).2⟩, fun h => h10 (up_of (by decide) h), fun h => h13 (up_of (by decide) h), by simpa [upto] using hO, fun h => by simp [upto, hz] at h⟩
    · obtain rfl := Option.some.inj ho
      have hz : L 12 = false := by cases hc : L 12 with | false => rfl | true => exact absurd (hA hc 9 (by omega) (by omega)) (by rw [hi]; simp)
      obtain ⟨h7q, rfl⟩ := h8 (hdep ⟨8, .data⟩ (by simp) rfl)
      have H7T := Lib.hid h7q
      clear h7q
      go_simp
      exact hK _ _ ⟨x63, x64, x65, x66, x67, x68, x69, x70, _, _, x72, x14, x15, tv0, rfl, hb, fun h => h0 (up_of (by decide) h), fun h => h1 (up_of (by decide) h), fun h _ => h2 (up_of (by decide) h) hz, fun h _ => h3 (up_of (by decide) h) hz, fun h => h4 (up_of (by decide) h), fun h => h5 (up_of (by decide) h), fun h _ => h6 (up_of (by decide) h) hz, fun h => h7 (up_of (by decide) h), fun _ => ⟨by simpa [upto] using H7T.out, rfl⟩, fun _ => ⟨by simpa [upto] using H7T.out, rfl⟩, fun h => h10 (up_of (by decide) h), fun h => h13 (up_of (by decide) h), by simpa [upto] using hO, fun h => by simp [upto, hz] at h⟩
    · obtain rfl := Option.some.inj ho
      obtain ⟨h7q, rfl⟩ := h8 (hdep ⟨8, .data⟩ (by simp) rfl)
      have H7T := Lib.hid h7q
      clear h7q
      go_simp
      exact hK _ _ ⟨x63, x64, x65, x66, x67, x68, x69, x70, _, x71, _, x14, x15, tv0, rfl, hb, fun h => h0 (up_of (by decide) h), fun h => h1 (up_of (by decide) h), fun h h' => h2 (up_of (by decide) h) (by simpa [upto] using h'), fun h h' => h3 (up_of (by decide) h) (by simpa [upto] using h'), fun h => h4 (up_of (by decide) h), fun h => h5 (up_of (by decide) h), fun h h' => h6 (up_of (by decide) h) (by simpa [upto] using h'), fun h => h7 (up_of (by decide) h), fun _ => ⟨by simpa [upto] using H7T.out, rfl⟩, fun h => ⟨by have := (h9 (up_of (by decide) h)).1; simp [upto, this], (h9 (up_of (by decide) h)).2⟩, fun _ => rfl, fun h => h13 (up_of (by decide) h), by simpa [upto] using hO, fun h j h1 h2 => by have := hA (by simpa [upto] using h) j h1 h2; simp [upto, this]⟩
    · obtain rfl := Option.some.inj ho
      have hz : L 12 = false := by cases hc : L 12 with | false => rfl | true => exact absurd (hA hc 11 (by omega) (by omega)) (by rw [hi]; simp)
      rw [hi] at hO
      go_simp
      exact hK _ _ ⟨x63, x64, x65, x66, x67, x68, x69, x70, x62, x71, x72, _, x15, tv0, rfl, bnext hb (ballocs (Below.refl wx.heap.size wx) _), fun h => h0 (up_of (by decide) h), fun h => h1 (up_of (by decide) h), fun h _ => (h2 (up_of (by decide) h) hz).later (ballocs (Below.refl wx.heap.size wx) _), fun h _ => (h3 (up_of (by decide) h) hz).later (ballocs (Below.refl wx.heap.size wx) _), fun h => h4 (up_of (by decide) h), fun h => h5 (up_of (by decide) h), fun h _ => (h6 (up_of (by decide) h) hz).later (ballocs (Below.refl wx.heap.size wx) _), fun h => h7 (up_of (by decide) h), fun h => ⟨by have := (h8 (up_of (by decide) h)).1; simp [upto, this], (h8 (up_of (by decide) h)).2⟩, fun h => ⟨by have := (h9 (up_of (by decide) h)).1; simp [upto, this], (h9 (up_of (by decide) h)).2⟩, fun h => h10 (up_of (by decide) h), fun h => h13 (up_of (by decide) h), by simpa [upto] using hO.mine hb.size, fun h => by simp [upto, hz] at h⟩
    · obtain rfl := Option.some.inj ho
      obtain ⟨h7q, rfl⟩ := h9 (hdep ⟨9, .data⟩ (by simp) rfl)
      have H7T := Lib.hid h7q
      clear h7q
      have D11 := Lib.hid (hdep ⟨11, .data⟩ (by simp) rfl)
      rw [H7T.out, D11.out] at hO
      obtain ⟨u, A4, c4, hP, rfl, _⟩ := hO.told rfl
      obtain rfl := hP
      obtain ⟨g, rfl, hg1, _, y0, y1, y2, y3, hg2, _⟩ := hO.box rfl
      obtain ⟨a0, a1, a2, a3, f0, f1, f2, f3⟩ := hg2.four
      have E0 := Lib.hid (hdep ⟨0, .phase⟩ (by simp) rfl)
      have E1 := Lib.hid (hdep ⟨1, .phase⟩ (by simp) rfl)
      have E2 := Lib.hid (hdep ⟨2, .phase⟩ (by simp) rfl)
      have E3 := Lib.hid (hdep ⟨3, .phase⟩ (by simp) rfl)
      have E4 := Lib.hid (hdep ⟨4, .phase⟩ (by simp) rfl)
      have E5 := Lib.hid (hdep ⟨5, .phase⟩ (by simp) rfl)
      have E6 := Lib.hid (hdep ⟨6, .phase⟩ (by simp) rfl)
      have E8 := Lib.hid (hdep ⟨8, .phase⟩ (by simp) rfl)
      have E9 := Lib.hid (hdep ⟨9, .phase⟩ (by simp) rfl)
      unfold tv at hO
      dsimp only [tv]
      go_simp
      exact hK _ _ ⟨x63, x64, x65, x66, x67, x68, x69, x70, x62, _, x72, _, x15, .agg #[.int .i64 LR.k, .int .i64 LR.n, .string LR.s, .slice A4 LR.l.length c4], rfl, put4_below hb hg1 _ _ _ _, fun h => h0 (up_of (by decide) h), fun h => h1 (up_of (by decide) h), fun _ h => by simp [upto] at h, fun _ h => by simp [upto] at h, fun h => h4 (up_of (by decide) h), fun h => h5 (up_of (by decide) h), fun _ h => by simp [upto] at h, fun h => h7 (up_of (by decide) h), fun h => ⟨by have := (h8 (up_of (by decide) h)).1; simp [upto, this], (h8 (up_of (by decide) h)).2⟩, fun _ => ⟨by simpa [upto] using H7T.out, rfl⟩, fun h => h10 (up_of (by decide) h), fun h => h13 (up_of (by decide) h), by simpa [upto, H7T.out, D11.out, put4] using hO.put, fun _ j hj hj2 => by match j, hj with
        | 0, _ => simp [upto, E0.out]
        | 1, _ => simp [upto, E1.out]
        | 2, _ => simp [upto, E2.out]
        | 3, _ => simp [upto, E3.out]
        | 4, _ => simp [upto, E4.out]
        | 5, _ => simp [upto, E5.out]
        | 6, _ => simp [upto, E6.out]
        | 7, _ => simp [upto, H7T.out]
        | 8, _ => simp [upto, E8.out]
        | 9, _ => simp [upto, E9.out]
        | 10, _ => exact absurd rfl hj2
        | 11, _ => simp [upto, D11.out]⟩
    · obtain rfl := Option.some.inj ho
      obtain rfl := h10 (hdep ⟨10, .data⟩ (by simp) rfl)
      go_simp
      exact hK _ _ ⟨x63, x64, x65, x66, x67, x68, x69, x70, x62, x71, _, x14, _, tv0, rfl, hb, fun h => h0 (up_of (by decide) h), fun h => h1 (up_of (by decide) h), fun h h' => h2 (up_of (by decide) h) (by simpa [upto] using h'), fun h h' => h3 (up_of (by decide) h) (by simpa [upto] using h'), fun h => h4 (up_of (by decide) h), fun h => h5 (up_of (by decide) h), fun h h' => h6 (up_of (by decide) h) (by simpa [upto] using h'), fun h => h7 (up_of (by decide) h), fun h => ⟨by have := (h8 (up_of (by decide) h)).1; simp [upto, this], (h8 (up_of (by decide) h)).2⟩, fun h => ⟨by have := (h9 (up_of (by decide) h)).1; simp [upto, this], (h9 (up_of (by decide) h)).2⟩, fun _ => rfl, fun _ => rfl, by simpa [upto] using hO, fun h j h1 h2 => by have := hA (by simpa [upto] using h) j h1 h2; simp [upto, this]⟩
    · simp at ho
  rintro L a' w11 ⟨x63, x64, x65, x66, x67, x68, x69, x70, x62, x71, x72, x14, x15, tv0, rfl, hb, h0, h1, h2, h3, h4, h5, h6, h7, h8, h9, h10, h13, hO, hA⟩ hL
  have f0 := h0 (hL 0 (by decide))
  have f1 := h1 (hL 1 (by decide))
  have f2 := h2 (hL 2 (by decide))
  have f3 := h3 (hL 3 (by decide))
  have f4 := h4 (hL 4 (by decide))
  have f5 := h5 (hL 5 (by decide))
  have f6 := h6 (hL 6 (by decide))
  have f7 := h7 (hL 7 (by decide))
  have f8 := h8 (hL 8 (by decide))
  have f9 := h9 (hL 9 (by decide))
  have f10 := h10 (hL 10 (by decide))
  have f13 := h13 (hL 13 (by decide))
  have e7 := hL 7 (by decide); have e11 := hL 11 (by decide); have e12 := hL 12 (by decide)
  rw [e7, e11, e12] at hO
  obtain ⟨gt, tq, At, ct, rfl, hgt1, rfl, rfl, hgt, htt⟩ := hO.done
  clear hO hA e7 e11 e12
  clear hL h0 h1 h2 h3 h4 h5 h6 h7 h8 h9 h10 h13
  obtain rfl := f13
  have HB11 := Lib.hid (bnext HB10.out hb)
  have HGT := Lib.hid hgt
  have HTT := Lib.hid htt
  clear f0 f1 f2 f3 f4 f5 f6 f7 f8 f9 f10 hb hgt htt
  go_wp2_with fail
  refine (HA.out _ _).mono ?_
  rintro e w12 ⟨rfl, hb12⟩
  have HB12 := Lib.hid (bnext HB11.out hb12)
  have HGT12 := Lib.hid (HGT.out.below hb12 HGT.out.lt)
  have HTT12 := Lib.hid (HTT.out.later hb12)
  clear hb12
  go_wp2_with fail
  refine (pfill_any SU [] _ none 0 w12 (sym_leaf w12 uscore (by decide)) (fun i q h => by simp at h) (by simp [maxLen]) nodes_SU (fun q h => by simp at h)).mono ?_
  rw [filled_us]
  rintro e w13 ⟨hb13, (⟨_, rfl⟩ | ⟨tq2, Aq2, cq2, ho, _⟩)⟩
  rotate_left
  · cases ho
  have HB13 := Lib.hid (bnext HB12.out hb13)
  have HGT13 := Lib.hid (HGT12.out.below hb13 HGT12.out.lt)
  have HTT13 := Lib.hid (HTT12.out.later hb13)
  clear hb13
  go_wp2_with fail
  refine (HV2.out _).mono ?_
  rintro e w14 ⟨rfl, hb14⟩
  have HK14 := Lib.hid (bnext (ballocs (Below.refl w13.heap.size w13) _) hb14)
  clear hb14
  go_wp2_with fail
  refine (HV0.out _).mono ?_
  rintro e w15 ⟨rfl, hb15⟩
  have HK15 := Lib.hid (bnext HK14.out hb15)
  clear hb15
  go_wp2_with fail
  refine (HV2.out _).mono ?_
  rintro e w16 ⟨rfl, hb16⟩
  have HK16 := Lib.hid (bnext HK15.out hb16)
  clear hb16
  go_wp2_with fail
  refine (l_any [V0, V2] (some ⟨w16.heap.size, 0, none⟩) 2 _ (ts_LV (Blk.new w16 _ _)) (by simp [maxLen])).mono ?_
  rintro e w17 ⟨kl, ml, sl, Bl, nl, dl, rfl, htl, hb17⟩
  have HK17 := Lib.hid (bnext (ballocs HK16.out _) hb17)
  have HTL := Lib.hid htl
  clear hb17 htl
  go_wp2_with fail
  refine (HT.out _ _ _ _).mono ?_
  rintro e w18 ⟨rfl, hb18⟩
  have HK18 := Lib.hid (bnext (ballocs HK17.out _) hb18)
  have hrow18 := (lit2 (F := (· < w17.heap.size)) (sym_leaf w17 ⟨#[36, 50]⟩ (by decide)) HTL.out (fun b h => h)).mono (G := (· < (w17.alloc (.cells #[.int .i64 2, .int .i64 0, .string ⟨#[36, 50]⟩, .slice none 0 0, .int .i64 kl, .int .i64 ml, .string sl, .slice Bl nl dl] 24)).heap.size)) (fun b hb => by rw [World.size_alloc]; omega)
  have HT18 := Lib.hid ((ta_tup (c := 2) (show TsA _ _ _ from hrow18) (Nat.le_refl _) (by simp [maxLen]) (fun h => by cases h)).later hb18)
  clear hb18 hrow18
  go_wp2_with fail
  refine (vars_yes T5 _ w18 HT18.out nodes_T5 may_T5).mono ?_
  rw [vars_T5]
  rintro e w19 ⟨A19, c19, rfl, hvr, hb19⟩
  have HVR := Lib.hid (show w19.ownsRow w18.heap.size 3 1 (.slice A19 2 c19) 2 [.int .i64 0, .int .i64 2] from hvr)
  have HK19 := Lib.hid (bnext HK18.out hb19)
  have HB19 := Lib.hid (bnext HB13.out HK19.out)
  have HGT19 := Lib.hid (HGT13.out.below HK19.out HGT13.out.lt)
  have HTT19 := Lib.hid (HTT13.out.later HK19.out)
  clear hb19 hvr
  simp only [List.length_cons, List.length_nil, Nat.zero_add, Nat.reduceAdd]
  go_wp2_with fail
  have HS19 := Lib.hid (show ∀ wx, Below w19.heap.size w19 wx → (Below w19.heap.size w19 wx ∧ wx.cell? ⟨w3.heap.size, 0, none⟩ = some (.int .i64 2) ∧ wx.cell? ⟨w3.heap.size, 1, none⟩ = some (.int .i64 0) ∧ wx.cell? ⟨w3.heap.size, 2, none⟩ = some (.string ⟨#[97]⟩) ∧ wx.cell? ⟨w3.heap.size, 3, none⟩ = some (.slice none 0 0) ∧ wx.cell? ⟨gt, 0, none⟩ = some (.int .i64 LR.k) ∧ wx.cell? ⟨gt, 1, none⟩ = some (.int .i64 LR.n) ∧ wx.cell? ⟨gt, 2, none⟩ = some (.string LR.s) ∧ wx.cell? ⟨gt, 3, none⟩ = some (.slice At LR.l.length ct)) from fun wx hb => by
    obtain ⟨a0, a1, a2, a3, _⟩ := HS.out wx (bnext HB19.out hb)
    obtain ⟨p0, p1, p2, p3, _, _, _, _⟩ := (HGT19.out.below hb HGT19.out.lt).four
    exact ⟨hb, a0, a1, a2, a3, p0, p1, p2, p3⟩)
  dsimp only [List.append]
  go_region_held3 (fun wx => Below w19.heap.size w19 wx ∧ wx.cell? ⟨w3.heap.size, 0, none⟩ = some (.int .i64 2) ∧ wx.cell? ⟨w3.heap.size, 1, none⟩ = some (.int .i64 0) ∧ wx.cell? ⟨w3.heap.size, 2, none⟩ = some (.string ⟨#[97]⟩) ∧ wx.cell? ⟨w3.heap.size, 3, none⟩ = some (.slice none 0 0) ∧ wx.cell? ⟨gt, 0, none⟩ = some (.int .i64 LR.k) ∧ wx.cell? ⟨gt, 1, none⟩ = some (.int .i64 LR.n) ∧ wx.cell? ⟨gt, 2, none⟩ = some (.string LR.s) ∧ wx.cell? ⟨gt, 3, none⟩ = some (.slice At LR.l.length ct)) (first
    | exact HS19.out _ (btodrew (Below.refl _ _))
    | exact HS19.out _ hbz
    | exact HS19.out _ (ballocs hbz _)
    | assumption) (first
    | (go_at_call 19
       refine (awake_any _).mono ?_
       rintro e wz ⟨rfl, hbz0⟩
       have hbz : Below w19.heap.size w19 wz := bnext (And.left (by assumption)) hbz0)
    | (go_at_call 33
       refine (HA.out _ _).mono ?_
       rintro e wz ⟨rfl, hbz0⟩
       have hbz : Below w19.heap.size w19 wz := bnext (And.left (by assumption)) hbz0)
    | (go_at_call 37
       have hmark := HK1
       refine (l_any [] none 0 _ (TsAt.nil _ _ _) (by simp [maxLen])).mono ?_
       rintro e wz ⟨k2, m2, s2, B2, n2, d2, rfl, htl2, hbz0⟩
       have HTL2 := Lib.hid htl2
       have hbz : Below w19.heap.size w19 wz := bnext (And.left (by assumption)) hbz0)
    | (go_at_call 37
       have HK1 := trivial
       refine (l_any [SA, SB] (some ⟨_, 0, none⟩) 2 _ (ts_LR (Blk.new _ _ _)) (by simp [maxLen])).mono ?_
       rintro e wz ⟨k1, m1, s1, B1, n1, d1, rfl, htl1, hbz0⟩
       have HTL1 := Lib.hid htl1
       have hbz : Below w19.heap.size w19 wz := bnext (And.left (by assumption)) hbz0)
    | (go_at_call 18
       refine (sameTerm_any LR LR _ _ _ (HTT19.out.later hbz) HTL1.out).mono ?_
       rw [eqT_iff.2 rfl]
       rintro e wz ⟨rfl, hbz0⟩
       have hbz : Below w19.heap.size w19 wz := bnext (And.left (by assumption)) hbz0
       have HVZ := Lib.hid (((reads_row HVR.out).below (Below.mono hbz (Nat.le_refl _))).more hbz.size))
    | (go_at_call 28
       refine (same02 HVZ.out rfl).mono ?_
       rintro e wz ⟨rfl, hbz0⟩
       have hbz : Below w19.heap.size w19 wz := bnext (And.left (by assumption)) hbz0)
    | (go_at_call 34
       have hmark := HK2
       refine (t3_call rfl).mono ?_
       rintro e wz ⟨rfl, ht3, hbz0⟩
       have HT3 := Lib.hid ht3
       have hbz : Below w19.heap.size w19 wz := bnext (And.left (by assumption)) hbz0)
    | (go_at_call 34
       have HK2 := trivial
       refine (t6_call HTL2.out rfl).mono ?_
       rintro e wz ⟨rfl, ht6, hbz0⟩
       have HT6 := Lib.hid ht6
       have hbz : Below w19.heap.size w19 wz := bnext (And.left (by assumption)) hbz0)
    | (go_at_call 31
       have hmark := HK3
       refine (bound_any T3 _ _ HT3.out nodes_T3).mono ?_
       rw [bound_T3]
       rintro e wz ⟨rfl, hbz0⟩
       have hbz : Below w19.heap.size w19 wz := bnext (And.left (by assumption)) hbz0)
    | (go_at_call 31
       have HK3 := trivial
       refine (bound_any T6 _ _ HT6.out nodes_T6).mono ?_
       rw [bound_T6]
       rintro e wz ⟨rfl, hbz0⟩
       have hbz : Below w19.heap.size w19 wz := bnext (And.left (by assumption)) hbz0)
    | fail)
  have HEND := Lib.hid (bnext (bnext HW3.out HB19.out) hbz)
  clear hbz
  go_wp2_with fail
  go_ret
  exact ⟨ret1_b rfl, HEND.out⟩
theorem contract (W : World) :
    Calls Try.prog 8 #[] W fun e w' => e = .returned (.bool true) ∧ Below W.heap.size W w' := walk W


theorem own : ownKnob Try.prog.godebug = none := by kernel_rfl
theorem laidOut : laidOutB Try.prog = true := by kernel_rfl
theorem readable : ∀ t ∈ Try.f8.params.toList, Try.prog.readableRec t = true ∧ t < Try.prog.types.size := by
  rw [show Try.f8.params = #[] from Try.params8]
  intro t h; simp at h
set_option maxRecDepth 100000 in
theorem lifted (os : Os) (started : os.Started) (H : Type) (enc : TypeId × Value → H) :
    ReturnsInHanded {} Try.checked os 8 .any (Rows.patternKnownSpec.pre6 enc Try.prog Try.f8 Rows.patternKnownRow.domain false) (Rows.patternKnownSpec.post enc Try.prog Try.f8 false true false false) := by
  refine K.law_lift (C := Try.checked) (b := 4) own started (by kernel_rfl) Try.func8
    (ChangeSpec.witness6 (enc := enc) (C := Try.checked) false ⟨#[], #[], []⟩ 8 (by kernel_rfl) (by kernel_rfl) (by kernel_rfl) (by kernel_rfl)) laidOut readable rfl rfl Try.underlying4 ?_ ?_
  · intro ds hds
    rw [show Try.f8.params = #[] from Try.params8] at hds
    match ds, hds with
    | [], _ => rfl
  · intro W base args ds p hval hA hlt hsz
    rw [show Try.checked.prog = Try.prog from rfl] at hval hA hsz
    rw [show Try.f8.params = #[] from Try.params8] at hA hval hsz
    obtain ⟨hargs, rfl, rfl⟩ := trodAll_nil hA
    obtain rfl : args = #[] := by cases args; simp_all
    exact contract W

theorem over : Rows.patternKnownRow.holds Try.pinned (OpenSpec.ofChange Rows.patternKnownSpec) :=
  OpenClaim.holds_of_wide 8 Try.f8 rfl rfl rfl rfl rfl rfl rfl ⟨rfl, rfl, rfl, rfl, rfl⟩ rfl rfl rfl rfl rfl (by kernel_rfl) Try.func8 (by kernel_rfl)
    (of_decide_eq_true (by kernel_rfl)) (by unfold Func.isWrapper; rw [if_neg (of_decide_eq_false (by kernel_rfl))]; exact ⟨rfl, rfl⟩)
    (fun os started H enc _ => lifted os started H enc)

/-- THE STATEMENT -/
theorem proved : Rows.PatternKnownSaid := over
#print axioms proved
end Go.Proofs.Ytlaplakaifmpeaa.PatternKnown
