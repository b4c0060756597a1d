/- tenurelaw16.awake: the document's examples, walked. -/
import Derived.Test.YtlaplakaifmpeaaPatVal
namespace Go.Proofs.Ytlaplakaifmpeaa.Pt
open Go.RowKit K Go.Shelf
set_option linter.unusedVariables false
set_option linter.unusedSimpArgs false

set_option maxRecDepth 100000 in
set_option maxHeartbeats 8000000 in
theorem awake_any (w : World) : Calls Try.prog 19 #[] w fun e w' => e = .returned (.bool true) ∧ Below w.heap.size w w' := by
  have HV1 := Lib.hid (fun w => v1_val w)
  have HA := Lib.hid (fun s w => a_val s w)
  go_enter Try.func19, Try.ntmps19
  go_wp2_with fail
  refine (HV1.out _).mono ?_
  rintro e w1 ⟨rfl, hb1⟩
  have HB1 := Lib.hid hb1
  clear hb1
  go_wp2_with fail
  refine (var_any V1 _ w1 (sym_leaf w1 ⟨#[36, 49]⟩ (by decide)) (nodes_leaf1 _ _ _)).mono ?_
  rw [var_V1]
  rintro e w2 ⟨rfl, hb2⟩
  have HB2 := Lib.hid (bnext HB1.out hb2)
  clear hb2
  unfold numV
  go_wp2_with fail
  refine (HA.out _ _).mono ?_
  rintro e w3 ⟨rfl, hb3⟩
  have HB3 := Lib.hid (bnext HB2.out hb3)
  clear hb3
  go_wp2_with fail
  refine (HA.out _ _).mono ?_
  rintro e w4 ⟨rfl, hb4⟩
  have HB4 := Lib.hid (bnext HB3.out hb4)
  clear hb4
  go_wp2_with fail
  obtain ⟨W4, hW4⟩ : ∃ W4, (w4.alloc (.cells #[.int .i64 2, .int .i64 0, .string ⟨#[97]⟩, .slice none 0 0] 24)).alloc (.cells #[.int .i64 2, .int .i64 0, .string ⟨#[98]⟩, .slice none 0 0] 24) = W4 := ⟨_, rfl⟩
  have hga : Blk W4 w4.heap.size 24 #[.int .i64 2, .int .i64 0, .string ⟨#[97]⟩, .slice none 0 0] := by rw [← hW4]; exact (Blk.new _ _ _).alloc _
  have hgx : Blk W4 (w4.heap.size + 1) 24 #[.int .i64 2, .int .i64 0, .string ⟨#[98]⟩, .slice none 0 0] := by
    rw [← hW4]
    have := Blk.new (w4.alloc (.cells #[.int .i64 2, .int .i64 0, .string ⟨#[97]⟩, .slice none 0 0] 24)) 24 #[.int .i64 2, .int .i64 0, .string ⟨#[98]⟩, .slice none 0 0]
    simp only [World.size_alloc] at this
    exact this
  have HW4 := Lib.hid (show Below w.heap.size w W4 from by rw [← hW4]; exact ballocs (ballocs HB4.out _) _)
  have HS := Lib.hid (show ∀ wx, Below W4.heap.size W4 wx → (Below W4.heap.size W4 wx ∧ wx.cell? ⟨w4.heap.size, 0, none⟩ = some (.int .i64 2) ∧ wx.cell? ⟨w4.heap.size, 1, none⟩ = some (.int .i64 0) ∧ wx.cell? ⟨w4.heap.size, 2, none⟩ = some (.string ⟨#[97]⟩) ∧ wx.cell? ⟨w4.heap.size, 3, none⟩ = some (.slice none 0 0) ∧ wx.cell? ⟨w4.heap.size + 1, 0, none⟩ = some (.int .i64 2) ∧ wx.cell? ⟨w4.heap.size + 1, 1, none⟩ = some (.int .i64 0) ∧ wx.cell? ⟨w4.heap.size + 1, 2, none⟩ = some (.string ⟨#[98]⟩) ∧ wx.cell? ⟨w4.heap.size + 1, 3, none⟩ = some (.slice none 0 0)) from fun wx hb => by
    obtain ⟨p0, p1, p2, p3, _, _, _, _⟩ := (hga.below hb hga.lt).four
    obtain ⟨s0, s1, s2, s3, _, _, _, _⟩ := (hgx.below hb hgx.lt).four
    exact ⟨hb, p0, p1, p2, p3, s0, s1, s2, s3⟩)
  rw [hW4]
  clear hga hgx hW4
  have HV2 := Lib.hid (fun w => v2_val w)
  have HI := Lib.hid (fun n w => i_val n w)
  have HT := Lib.hid (fun A m c w => t_val A m c w)
  go_region_held3 (fun wx => Below W4.heap.size W4 wx ∧ wx.cell? ⟨w4.heap.size, 0, none⟩ = some (.int .i64 2) ∧ wx.cell? ⟨w4.heap.size, 1, none⟩ = some (.int .i64 0) ∧ wx.cell? ⟨w4.heap.size, 2, none⟩ = some (.string ⟨#[97]⟩) ∧ wx.cell? ⟨w4.heap.size, 3, none⟩ = some (.slice none 0 0) ∧ wx.cell? ⟨w4.heap.size + 1, 0, none⟩ = some (.int .i64 2) ∧ wx.cell? ⟨w4.heap.size + 1, 1, none⟩ = some (.int .i64 0) ∧ wx.cell? ⟨w4.heap.size + 1, 2, none⟩ = some (.string ⟨#[98]⟩) ∧ wx.cell? ⟨w4.heap.size + 1, 3, none⟩ = some (.slice none 0 0)) (first
    | exact HS.out _ (btodrew (Below.refl _ _))
    | exact HS.out _ hbz
    | exact HS.out _ (ballocs hbz _)
    | assumption) (first
    | (go_at_call 36
       have hmark := HK2
       have hby := And.left (by assumption)
       refine (HV1.out _).mono ?_
       rintro e v3 ⟨rfl, hbz0⟩
       have hbz := bnext hby hbz0)
    | (go_at_call 36
       have hmark := HK1
       have HK2 := trivial
       have hby := And.left (by assumption)
       refine (HV2.out _).mono ?_
       rintro e v2 ⟨rfl, hbz0⟩
       have hbz := bnext hby hbz0)
    | (go_at_call 36
       have HK1 := trivial
       have hby := And.left (by assumption)
       refine (HV1.out _).mono ?_
       rintro e v1 ⟨rfl, hbz0⟩
       have hbz := bnext hby hbz0)
    | (go_at_call 35
       have hby := And.left (by assumption)
       refine (HI.out _ _).mono ?_
       rintro e wi ⟨rfl, hbz0⟩
       have HTP := Lib.hid (HTP.out.later hbz0)
       have hbz := bnext hby hbz0)
    | (go_at_call 34
       have hmark := HK3
       have hby := And.left (by assumption)
       refine (tT1_val _ _ rfl).mono ?_
       rintro e wt2 ⟨rfl, htp, hbz0⟩
       have HTP := Lib.hid ((HTP.out.alloc _).later hbz0)
       have HTT := Lib.hid htp
       have hbz := bnext hby hbz0)
    | (go_at_call 34
       have HK3 := trivial
       have hby := And.left (by assumption)
       refine (tP1_val _ _ rfl).mono ?_
       rintro e wt1 ⟨rfl, htp, hbz0⟩
       have HTP := Lib.hid htp
       have hbz := bnext hby hbz0)
    | (go_at_call 14
       have hby := And.left (by assumption)
       refine (pmatch_any P1 T1 _ _ _ HTP.out HTT.out nodes_P1 nodes_T1).mono ?_
       rw [more_P1]
       rintro e wm hm
       obtain ⟨hbz0, Am, cm, rfl, hrow⟩ := hm.yes
       have HROW := Lib.hid (show BRow wm W4.heap.size (.slice Am 2 cm) [(1, SA), (2, tnum 3)] from hrow.base hby.size)
       clear hrow hm
       have hbz := bnext hby hbz0)
    | fail)
  obtain ⟨w5, hw5⟩ : ∃ x, wm = x := ⟨_, rfl⟩
  rw [hw5] at hbz HROW ⊢
  clear hw5
  have HS5 := Lib.hid (show ∀ wx, Below w5.heap.size w5 wx → (Below w5.heap.size w5 wx ∧ wx.cell? ⟨w4.heap.size, 0, none⟩ = some (.int .i64 2) ∧ wx.cell? ⟨w4.heap.size, 1, none⟩ = some (.int .i64 0) ∧ wx.cell? ⟨w4.heap.size, 2, none⟩ = some (.string ⟨#[97]⟩) ∧ wx.cell? ⟨w4.heap.size, 3, none⟩ = some (.slice none 0 0) ∧ wx.cell? ⟨w4.heap.size + 1, 0, none⟩ = some (.int .i64 2) ∧ wx.cell? ⟨w4.heap.size + 1, 1, none⟩ = some (.int .i64 0) ∧ wx.cell? ⟨w4.heap.size + 1, 2, none⟩ = some (.string ⟨#[98]⟩) ∧ wx.cell? ⟨w4.heap.size + 1, 3, none⟩ = some (.slice none 0 0)) from fun wx hb => ⟨hb, (HS.out wx (bnext hbz hb)).2⟩)
  have HB5 := Lib.hid (bnext HW4.out hbz)
  clear hbz
  go_wp2_with fail
  refine wp_region_by (by kernel_rfl) (by kernel_rfl) (fun L a' wx => ∃ x31 x32 x33 x34 x35 x36 x37 x38 x39 x30 x40 x41 x7 x8, a' = { tmps := #[Value.bool false, Value.int IntKind.i64 1, Value.bool true, Value.pointer (some { block := w4.heap.size, off := 0 }), Value.pointer (some { block := w4.heap.size + 1, off := 0 }), Value.slice Am 2 cm, Value.bool true, x7, x8, Value.tuple #[Value.int IntKind.i64 1, Value.bool true], Value.agg #[Value.int IntKind.i64 2, Value.int IntKind.i64 0, Value.string { data := #[36, 49] }, Value.slice none 0 0], Value.tuple #[Value.int IntKind.i64 1, Value.bool true], Value.int IntKind.i64 1, Value.bool true, Value.agg #[Value.int IntKind.i64 2, Value.int IntKind.i64 0, Value.string { data := #[97] }, Value.slice none 0 0], Value.agg #[Value.int IntKind.i64 2, Value.int IntKind.i64 0, Value.string { data := #[98] }, Value.slice none 0 0], Value.tuple #[Value.slice Am 2 cm, Value.bool true], Value.agg #[Value.int IntKind.i64 2, Value.int IntKind.i64 0, Value.string { data := #[36, 49] }, Value.slice none 0 0], Value.agg #[Value.int IntKind.i64 2, Value.int IntKind.i64 0, Value.string { data := #[36, 50] }, Value.slice none 0 0], Value.agg #[Value.int IntKind.i64 2, Value.int IntKind.i64 0, Value.string { data := #[36, 49] }, Value.slice none 0 0], Value.slice (some { block := v3.heap.size, off := 0 }) 3 3, Value.agg #[Value.int IntKind.i64 7, Value.int IntKind.i64 0, Value.string { data := #[] }, Value.slice (some { block := v3.heap.size, off := 0 }) 3 3], Value.agg #[Value.int IntKind.i64 2, Value.int IntKind.i64 0, Value.string { data := #[97] }, Value.slice none 0 0], Value.agg #[Value.int IntKind.i64 1, Value.int IntKind.i64 3, Value.string { data := #[] }, Value.slice none 0 0], Value.agg #[Value.int IntKind.i64 2, Value.int IntKind.i64 0, Value.string { data := #[97] }, Value.slice none 0 0], Value.slice (some { block := wi.heap.size, off := 0 }) 3 3, Value.agg #[Value.int IntKind.i64 7, Value.int IntKind.i64 0, Value.string { data := #[] }, Value.slice (some { block := wi.heap.size, off := 0 }) 3 3], Value.tuple #[Value.slice Am 2 cm, Value.bool true], Value.slice Am 2 cm, Value.bool true, x30, x31, x32, x33, x34, x35, x36, x37, x38, x39, x40, x41, undef, undef, undef, undef, undef, undef, undef, undef, undef, undef, undef, undef, undef, undef, undef, undef, undef, undef, undef, undef, undef, undef, undef, undef, undef], defers := [] } ∧ Below w5.heap.size w5 wx ∧ (L 0 = true → x31 = .agg #[.int .i64 2, .int .i64 0, .string ⟨#[36, 49]⟩, .slice none 0 0]) ∧ (L 1 = true → x32 = .agg #[.int .i64 2, .int .i64 0, .string ⟨#[36, 49]⟩, .slice none 0 0]) ∧ (L 2 = true → SlF 2 24 #[.int .i64 2, .int .i64 0, .string ⟨#[36, 49]⟩, .slice none 0 0, .int .i64 2, .int .i64 0, .string ⟨#[36, 49]⟩, .slice none 0 0] x33 wx) ∧ (L 3 = true → TpF P2 x34 wx) ∧ (L 4 = true → x35 = .agg #[.int .i64 2, .int .i64 0, .string ⟨#[97]⟩, .slice none 0 0]) ∧ (L 5 = true → x36 = .agg #[.int .i64 2, .int .i64 0, .string ⟨#[98]⟩, .slice none 0 0]) ∧ (L 6 = true → SlF 2 24 #[.int .i64 2, .int .i64 0, .string ⟨#[97]⟩, .slice none 0 0, .int .i64 2, .int .i64 0, .string ⟨#[98]⟩, .slice none 0 0] x37 wx) ∧ (L 7 = true → TpF T2 x38 wx) ∧ (L 8 = true → x39 = .tuple #[.slice none 0 0, .bool false]) ∧ (L 9 = true → x30 = .tuple #[.slice none 0 0, .bool false]) ∧ (L 10 = true → x40 = .slice none 0 0) ∧ (L 11 = true → x41 = .bool false) ∧ (L 12 = true → x7 = .slice none 0 0) ∧ (L 13 = true → x8 = .bool false)) ?_ ?_ ?_
  · exact ⟨undef, undef, undef, undef, undef, undef, undef, undef, undef, undef, undef, undef, undef, undef, rfl, btodrew (Below.refl _ _), nofun, nofun, nofun, nofun, nofun, nofun, nofun, nofun, nofun, nofun, nofun, nofun, nofun, nofun⟩
  · rintro L a' wx ⟨x31, x32, x33, x34, x35, x36, x37, x38, x39, x30, x40, x41, x7, x8, rfl, hb, h0, h1, h2, h3, h4, h5, h6, h7, h8, h9, h10, h11, h12, h13⟩ hL
    have f0 := h0 (hL 0 (by decide))
    have f1 := h1 (hL 1 (by decide))
    have f2 := h2 (hL 2 (by decide))
    have f3 := h3 (hL 3 (by decide))
    have f4 := h4 (hL 4 (by decide))
    have f5 := h5 (hL 5 (by decide))
    have f6 := h6 (hL 6 (by decide))
    have f7 := h7 (hL 7 (by decide))
    have f8 := h8 (hL 8 (by decide))
    have f9 := h9 (hL 9 (by decide))
    have f10 := h10 (hL 10 (by decide))
    have f11 := h11 (hL 11 (by decide))
    have f12 := h12 (hL 12 (by decide))
    have f13 := h13 (hL 13 (by decide))
    clear hL h0 h1 h2 h3 h4 h5 h6 h7 h8 h9 h10 h11 h12 h13
    obtain rfl := f0; obtain rfl := f1; obtain rfl := f4; obtain rfl := f5; obtain rfl := f8; obtain rfl := f9; obtain rfl := f10; obtain rfl := f11; obtain rfl := f12; obtain rfl := f13
    clear f2 f3 f6 f7
    have HS6 := Lib.hid (show ∀ wz, Below wx.heap.size wx wz → (Below wx.heap.size wx wz ∧ wz.cell? ⟨w4.heap.size, 0, none⟩ = some (.int .i64 2) ∧ wz.cell? ⟨w4.heap.size, 1, none⟩ = some (.int .i64 0) ∧ wz.cell? ⟨w4.heap.size, 2, none⟩ = some (.string ⟨#[97]⟩) ∧ wz.cell? ⟨w4.heap.size, 3, none⟩ = some (.slice none 0 0) ∧ wz.cell? ⟨w4.heap.size + 1, 0, none⟩ = some (.int .i64 2) ∧ wz.cell? ⟨w4.heap.size + 1, 1, none⟩ = some (.int .i64 0) ∧ wz.cell? ⟨w4.heap.size + 1, 2, none⟩ = some (.string ⟨#[98]⟩) ∧ wz.cell? ⟨w4.heap.size + 1, 3, none⟩ = some (.slice none 0 0)) from fun wz h => ⟨h, (HS5.out wz (bnext hb h)).2⟩)
    have HB6 := Lib.hid (bnext HB5.out hb)
    have HROW6 := Lib.hid (HROW.out.later hb)
    clear hb
    go_wp2_with fail
    go_region_held3 (fun wz => Below wx.heap.size wx wz ∧ wz.cell? ⟨w4.heap.size, 0, none⟩ = some (.int .i64 2) ∧ wz.cell? ⟨w4.heap.size, 1, none⟩ = some (.int .i64 0) ∧ wz.cell? ⟨w4.heap.size, 2, none⟩ = some (.string ⟨#[97]⟩) ∧ wz.cell? ⟨w4.heap.size, 3, none⟩ = some (.slice none 0 0) ∧ wz.cell? ⟨w4.heap.size + 1, 0, none⟩ = some (.int .i64 2) ∧ wz.cell? ⟨w4.heap.size + 1, 1, none⟩ = some (.int .i64 0) ∧ wz.cell? ⟨w4.heap.size + 1, 2, none⟩ = some (.string ⟨#[98]⟩) ∧ wz.cell? ⟨w4.heap.size + 1, 3, none⟩ = some (.slice none 0 0)) (first
      | exact HS6.out _ (btodrew (Below.refl _ _))
      | exact HS6.out _ hbz
      | exact HS6.out _ (ballocs hbz _)
      | assumption) (first
      | (go_at_call 35
         refine (HI.out _ _).mono ?_
         rintro e wi2 ⟨rfl, hbz0⟩
         have hbz : Below wx.heap.size wx wi2 := bnext (And.left (by assumption)) hbz0
         have HROWI := Lib.hid (HROW6.out.later hbz))
      | (go_at_call 16
         refine (sameBinds_any [(1, SA), (2, tnum 3)] [(1, SA), (2, tnum 3)] Am _ cm 2 _ (row_bs (HROWI.out.later (ballocs (Below.refl _ _) _))) (bs_row2 (Blk.new _ _ _) (sym_leaf _ ⟨#[97]⟩ (by decide)) (num_leaf _ 3 (by decide))) (by simp [maxLen]) (by simp [maxLen])).mono ?_
         rw [eqBs_iff.2 rfl]
         rintro e wz ⟨rfl, hbz0⟩
         have hbz : Below wx.heap.size wx wz := bnext (And.left (by assumption)) hbz0)
      | (go_at_call 33
         refine (HA.out _ _).mono ?_
         rintro e wz ⟨rfl, hbz0⟩
         have hbz : Below wx.heap.size wx wz := bnext (And.left (by assumption)) hbz0)
      | (go_at_call 26
         refine (any_any SU _ _ (sym_leaf _ uscore (by decide)) (nodes_leaf1 _ _ _)).mono ?_
         rw [any_SU]
         rintro e wend ⟨rfl, hbz0⟩
         have hbz : Below wx.heap.size wx wend := bnext (And.left (by assumption)) hbz0)
      | fail)
    have HEND := Lib.hid (bnext HB6.out hbz)
    clear hbz
    go_wp2_with fail
    go_ret
    exact ⟨ret1_b rfl, HEND.out⟩
  · rintro i o ho L a' wx ⟨x31, x32, x33, x34, x35, x36, x37, x38, x39, x30, x40, x41, x7, x8, rfl, hb, h0, h1, h2, h3, h4, h5, h6, h7, h8, h9, h10, h11, h12, h13⟩ hi hdep K hK
    rcases i with _ | _ | _ | _ | _ | _ | _ | _ | _ | _ | _ | _ | _ | _ | i
    · obtain rfl := Option.some.inj ho
      go_simp
      refine (HV1.out wx).mono ?_
      rintro e wz ⟨rfl, hbz⟩
      exact hK _ _ ⟨_, x32, x33, x34, x35, x36, x37, x38, x39, x30, x40, x41, x7, x8, rfl, bnext hb (hbz), fun _ => rfl, fun h => h1 (up_of (by decide) h), fun h => (h2 (up_of (by decide) h)).later (hbz), fun h => (h3 (up_of (by decide) h)).later (hbz), fun h => h4 (up_of (by decide) h), fun h => h5 (up_of (by decide) h), fun h => (h6 (up_of (by decide) h)).later (hbz), fun h => (h7 (up_of (by decide) h)).later (hbz), fun h => h8 (up_of (by decide) h), fun h => h9 (up_of (by decide) h), fun h => h10 (up_of (by decide) h), fun h => h11 (up_of (by decide) h), fun h => h12 (up_of (by decide) h), fun h => h13 (up_of (by decide) h)⟩
    · obtain rfl := Option.some.inj ho
      go_simp
      refine (HV1.out wx).mono ?_
      rintro e wz ⟨rfl, hbz⟩
      exact hK _ _ ⟨x31, _, x33, x34, x35, x36, x37, x38, x39, x30, x40, x41, x7, x8, rfl, bnext hb (hbz), fun h => h0 (up_of (by decide) h), fun _ => rfl, fun h => (h2 (up_of (by decide) h)).later (hbz), fun h => (h3 (up_of (by decide) h)).later (hbz), fun h => h4 (up_of (by decide) h), fun h => h5 (up_of (by decide) h), fun h => (h6 (up_of (by decide) h)).later (hbz), fun h => (h7 (up_of (by decide) h)).later (hbz), fun h => h8 (up_of (by decide) h), fun h => h9 (up_of (by decide) h), fun h => h10 (up_of (by decide) h), fun h => h11 (up_of (by decide) h), fun h => h12 (up_of (by decide) h), fun h => h13 (up_of (by decide) h)⟩
    · obtain rfl := Option.some.inj ho
      obtain rfl := h0 (hdep ⟨0, .data⟩ (by simp) rfl)
      obtain rfl := h1 (hdep ⟨1, .data⟩ (by simp) rfl)
      go_simp
      exact hK _ _ ⟨_, _, _, x34, x35, x36, x37, x38, x39, x30, x40, x41, x7, x8, rfl, bnext hb (ballocs (Below.refl wx.heap.size wx) _), fun _ => rfl, fun _ => rfl, fun _ => ⟨wx.heap.size, rfl, Blk.new _ _ _⟩, fun h => (h3 (up_of (by decide) h)).later (ballocs (Below.refl wx.heap.size wx) _), fun h => h4 (up_of (by decide) h), fun h => h5 (up_of (by decide) h), fun h => (h6 (up_of (by decide) h)).later (ballocs (Below.refl wx.heap.size wx) _), fun h => (h7 (up_of (by decide) h)).later (ballocs (Below.refl wx.heap.size wx) _), fun h => h8 (up_of (by decide) h), fun h => h9 (up_of (by decide) h), fun h => h10 (up_of (by decide) h), fun h => h11 (up_of (by decide) h), fun h => h12 (up_of (by decide) h), fun h => h13 (up_of (by decide) h)⟩
    · obtain rfl := Option.some.inj ho
      obtain ⟨g, rfl, hg⟩ := h2 (hdep ⟨2, .data⟩ (by simp) rfl)
      go_simp
      refine (HT.out _ _ _ wx).mono ?_
      rintro e wz ⟨rfl, hbz⟩
      exact hK _ _ ⟨x31, x32, _, _, x35, x36, x37, x38, x39, x30, x40, x41, x7, x8, rfl, bnext hb (hbz), fun h => h0 (up_of (by decide) h), fun h => h1 (up_of (by decide) h), fun _ => ⟨g, rfl, hg.below hbz hg.lt⟩, fun _ => ⟨_, _, _, _, _, _, rfl, (ta_P2 hg).later hbz⟩, fun h => h4 (up_of (by decide) h), fun h => h5 (up_of (by decide) h), fun h => (h6 (up_of (by decide) h)).later (hbz), fun h => (h7 (up_of (by decide) h)).later (hbz), fun h => h8 (up_of (by decide) h), fun h => h9 (up_of (by decide) h), fun h => h10 (up_of (by decide) h), fun h => h11 (up_of (by decide) h), fun h => h12 (up_of (by decide) h), fun h => h13 (up_of (by decide) h)⟩
    · obtain rfl := Option.some.inj ho
      obtain ⟨_, a0, a1, a2, a3, b0, b1, b2, b3⟩ := HS5.out wx hb
      go_simp
      exact hK _ _ ⟨x31, x32, x33, x34, _, x36, x37, x38, x39, x30, x40, x41, x7, x8, rfl, hb, fun h => h0 (up_of (by decide) h), fun h => h1 (up_of (by decide) h), fun h => h2 (up_of (by decide) h), fun h => h3 (up_of (by decide) h), fun _ => rfl, fun h => h5 (up_of (by decide) h), fun h => h6 (up_of (by decide) h), fun h => h7 (up_of (by decide) h), fun h => h8 (up_of (by decide) h), fun h => h9 (up_of (by decide) h), fun h => h10 (up_of (by decide) h), fun h => h11 (up_of (by decide) h), fun h => h12 (up_of (by decide) h), fun h => h13 (up_of (by decide) h)⟩
    · obtain rfl := Option.some.inj ho
      obtain ⟨_, a0, a1, a2, a3, b0, b1, b2, b3⟩ := HS5.out wx hb
      go_simp
      exact hK _ _ ⟨x31, x32, x33, x34, x35, _, x37, x38, x39, x30, x40, x41, x7, x8, rfl, hb, fun h => h0 (up_of (by decide) h), fun h => h1 (up_of (by decide) h), fun h => h2 (up_of (by decide) h), fun h => h3 (up_of (by decide) h), fun h => h4 (up_of (by decide) h), fun _ => rfl, fun h => h6 (up_of (by decide) h), fun h => h7 (up_of (by decide) h), fun h => h8 (up_of (by decide) h), fun h => h9 (up_of (by decide) h), fun h => h10 (up_of (by decide) h), fun h => h11 (up_of (by decide) h), fun h => h12 (up_of (by decide) h), fun h => h13 (up_of (by decide) h)⟩
    · obtain rfl := Option.some.inj ho
      obtain rfl := h4 (hdep ⟨4, .data⟩ (by simp) rfl)
      obtain rfl := h5 (hdep ⟨5, .data⟩ (by simp) rfl)
      go_simp
      exact hK _ _ ⟨x31, x32, x33, x34, _, _, _, x38, x39, x30, x40, x41, x7, x8, rfl, bnext hb (ballocs (Below.refl wx.heap.size wx) _), fun h => h0 (up_of (by decide) h), fun h => h1 (up_of (by decide) h), fun h => (h2 (up_of (by decide) h)).later (ballocs (Below.refl wx.heap.size wx) _), fun h => (h3 (up_of (by decide) h)).later (ballocs (Below.refl wx.heap.size wx) _), fun _ => rfl, fun _ => rfl, fun _ => ⟨wx.heap.size, rfl, Blk.new _ _ _⟩, fun h => (h7 (up_of (by decide) h)).later (ballocs (Below.refl wx.heap.size wx) _), fun h => h8 (up_of (by decide) h), fun h => h9 (up_of (by decide) h), fun h => h10 (up_of (by decide) h), fun h => h11 (up_of (by decide) h), fun h => h12 (up_of (by decide) h), fun h => h13 (up_of (by decide) h)⟩
    · obtain rfl := Option.some.inj ho
      obtain ⟨g, rfl, hg⟩ := h6 (hdep ⟨6, .data⟩ (by simp) rfl)
      go_simp
      refine (HT.out _ _ _ wx).mono ?_
      rintro e wz ⟨rfl, hbz⟩
      exact hK _ _ ⟨x31, x32, x33, x34, x35, x36, _, _, x39, x30, x40, x41, x7, x8, rfl, bnext hb (hbz), fun h => h0 (up_of (by decide) h), fun h => h1 (up_of (by decide) h), fun h => (h2 (up_of (by decide) h)).later (hbz), fun h => (h3 (up_of (by decide) h)).later (hbz), fun h => h4 (up_of (by decide) h), fun h => h5 (up_of (by decide) h), fun _ => ⟨g, rfl, hg.below hbz hg.lt⟩, fun _ => ⟨_, _, _, _, _, _, rfl, (ta_T2 hg).later hbz⟩, fun h => h8 (up_of (by decide) h), fun h => h9 (up_of (by decide) h), fun h => h10 (up_of (by decide) h), fun h => h11 (up_of (by decide) h), fun h => h12 (up_of (by decide) h), fun h => h13 (up_of (by decide) h)⟩
    · obtain rfl := Option.some.inj ho
      obtain ⟨kp, mp, sp, Ap, np, cp, rfl, htp⟩ := h3 (hdep ⟨3, .data⟩ (by simp) rfl)
      obtain ⟨kt, mt, st, At, nt, ct, rfl, htt⟩ := h7 (hdep ⟨7, .data⟩ (by simp) rfl)
      go_simp
      refine (pmatch_any P2 T2 _ _ wx htp htt nodes_P2 nodes_T2).mono ?_
      rw [more_P2]
      rintro e wz hm
      obtain ⟨hbz, rfl⟩ := hm.no
      exact hK _ _ ⟨x31, x32, x33, _, x35, x36, x37, _, _, x30, x40, x41, x7, x8, rfl, bnext hb (hbz), fun h => h0 (up_of (by decide) h), fun h => h1 (up_of (by decide) h), fun h => (h2 (up_of (by decide) h)).later (hbz), fun _ => ⟨_, _, _, _, _, _, rfl, htp.later hbz⟩, fun h => h4 (up_of (by decide) h), fun h => h5 (up_of (by decide) h), fun h => (h6 (up_of (by decide) h)).later (hbz), fun _ => ⟨_, _, _, _, _, _, rfl, htt.later hbz⟩, fun _ => rfl, fun h => h9 (up_of (by decide) h), fun h => h10 (up_of (by decide) h), fun h => h11 (up_of (by decide) h), fun h => h12 (up_of (by decide) h), fun h => h13 (up_of (by decide) h)⟩
    · obtain rfl := Option.some.inj ho
      obtain rfl := h8 (hdep ⟨8, .data⟩ (by simp) rfl)
      go_simp
      exact hK _ _ ⟨x31, x32, x33, x34, x35, x36, x37, x38, _, _, x40, x41, x7, x8, rfl, hb, fun h => h0 (up_of (by decide) h), fun h => h1 (up_of (by decide) h), fun h => h2 (up_of (by decide) h), fun h => h3 (up_of (by decide) h), fun h => h4 (up_of (by decide) h), fun h => h5 (up_of (by decide) h), fun h => h6 (up_of (by decide) h), fun h => h7 (up_of (by decide) h), fun _ => rfl, fun _ => rfl, fun h => h10 (up_of (by decide) h), fun h => h11 (up_of (by decide) h), fun h => h12 (up_of (by decide) h), fun h => h13 (up_of (by decide) h)⟩
    · obtain rfl := Option.some.inj ho
      obtain rfl := h9 (hdep ⟨9, .data⟩ (by simp) rfl)
      go_simp
      exact hK _ _ ⟨x31, x32, x33, x34, x35, x36, x37, x38, x39, _, _, x41, x7, x8, rfl, hb, fun h => h0 (up_of (by decide) h), fun h => h1 (up_of (by decide) h), fun h => h2 (up_of (by decide) h), fun h => h3 (up_of (by decide) h), fun h => h4 (up_of (by decide) h), fun h => h5 (up_of (by decide) h), fun h => h6 (up_of (by decide) h), fun h => h7 (up_of (by decide) h), fun h => h8 (up_of (by decide) h), fun _ => rfl, fun _ => rfl, fun h => h11 (up_of (by decide) h), fun h => h12 (up_of (by decide) h), fun h => h13 (up_of (by decide) h)⟩
    · obtain rfl := Option.some.inj ho
      obtain rfl := h9 (hdep ⟨9, .data⟩ (by simp) rfl)
      go_simp
      exact hK _ _ ⟨x31, x32, x33, x34, x35, x36, x37, x38, x39, _, x40, _, x7, x8, rfl, hb, fun h => h0 (up_of (by decide) h), fun h => h1 (up_of (by decide) h), fun h => h2 (up_of (by decide) h), fun h => h3 (up_of (by decide) h), fun h => h4 (up_of (by decide) h), fun h => h5 (up_of (by decide) h), fun h => h6 (up_of (by decide) h), fun h => h7 (up_of (by decide) h), fun h => h8 (up_of (by decide) h), fun _ => rfl, fun h => h10 (up_of (by decide) h), fun _ => rfl, fun h => h12 (up_of (by decide) h), fun h => h13 (up_of (by decide) h)⟩
    · obtain rfl := Option.some.inj ho
      obtain rfl := h10 (hdep ⟨10, .data⟩ (by simp) rfl)
      go_simp
      exact hK _ _ ⟨x31, x32, x33, x34, x35, x36, x37, x38, x39, x30, _, x41, _, x8, rfl, hb, fun h => h0 (up_of (by decide) h), fun h => h1 (up_of (by decide) h), fun h => h2 (up_of (by decide) h), fun h => h3 (up_of (by decide) h), fun h => h4 (up_of (by decide) h), fun h => h5 (up_of (by decide) h), fun h => h6 (up_of (by decide) h), fun h => h7 (up_of (by decide) h), fun h => h8 (up_of (by decide) h), fun h => h9 (up_of (by decide) h), fun _ => rfl, fun h => h11 (up_of (by decide) h), fun _ => rfl, fun h => h13 (up_of (by decide) h)⟩
    · obtain rfl := Option.some.inj ho
      obtain rfl := h11 (hdep ⟨11, .data⟩ (by simp) rfl)
      go_simp
      exact hK _ _ ⟨x31, x32, x33, x34, x35, x36, x37, x38, x39, x30, x40, _, x7, _, rfl, hb, fun h => h0 (up_of (by decide) h), fun h => h1 (up_of (by decide) h), fun h => h2 (up_of (by decide) h), fun h => h3 (up_of (by decide) h), fun h => h4 (up_of (by decide) h), fun h => h5 (up_of (by decide) h), fun h => h6 (up_of (by decide) h), fun h => h7 (up_of (by decide) h), fun h => h8 (up_of (by decide) h), fun h => h9 (up_of (by decide) h), fun h => h10 (up_of (by decide) h), fun _ => rfl, fun h => h12 (up_of (by decide) h), fun _ => rfl⟩
    · simp at ho
end Go.Proofs.Ytlaplakaifmpeaa.Pt
