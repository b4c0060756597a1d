/- The law HeapKnown returns true: the chapter's examples are answered as it says. (Printed by mk_heapknown.py.) -/
import Derived.Test.YtnedjmjcbmoknaaHpVal2
import Derived.Test.YtnedjmjcbmoknaaHpEight
import Derived.Test.YtnedjmjcbmoknaaHpLay
import Derived.Test.YtnedjmjcbmoknaaHpCollect
import Derived.Test.YtnedjmjcbmoknaaSameWords
import Derived.Deep.RegionHeld3
import Derived.Deep.DeepCutAuto
namespace Go.Proofs.Ytnedjmjcbmoknaa.HeapKnown
open Go.RowKit K At Wd Fl Hp
open Go.ChangeShapes Go.WideShapes Go.ChangeAt
set_option linter.unusedVariables false
set_option linter.unusedSimpArgs false

theorem lit1 {w : World} {F : Nat → Prop} {a : Tm} {k n : Int} {s : ByteArray} {A : Option Addr} {m c : Nat} (ha : TAt w F a (.agg #[.int .i64 k, .int .i64 n, .string s, .slice A m c])) (hF : ∀ b, F b → b < w.heap.size) :
    TsAt (w.alloc (.cells #[.int .i64 k, .int .i64 n, .string s, .slice A m c] 28)) (fun b => F b ∨ b = w.heap.size) (some ⟨w.heap.size, 0, none⟩) [a] :=
  lit_rowF (vs := [_]) (.cons ha .nil) hF (by simp [maxLen]) _ rfl
theorem lit4 {w : World} {n1 n2 n3 n4 : Int} (h1 : (Lit.int .i64 n1).wf = true) (h2 : (Lit.int .i64 n2).wf = true) (h3 : (Lit.int .i64 n3).wf = true) (h4 : (Lit.int .i64 n4).wf = true) :
    TsAt (w.alloc (.cells #[.int .i64 1, .int .i64 n1, .string ⟨#[]⟩, .slice none 0 0, .int .i64 1, .int .i64 n2, .string ⟨#[]⟩, .slice none 0 0, .int .i64 1, .int .i64 n3, .string ⟨#[]⟩, .slice none 0 0, .int .i64 1, .int .i64 n4, .string ⟨#[]⟩, .slice none 0 0] 28)) (fun b => b = w.heap.size) (some ⟨w.heap.size, 0, none⟩) [tnum n1, tnum n2, tnum n3, tnum n4] :=
  (lit_rowF (F := fun _ => False) (vs := [_, _, _, _]) (.cons (num_leaf w n1 h1) (.cons (num_leaf w n2 h2) (.cons (num_leaf w n3 h3) (.cons (num_leaf w n4 h4) .nil)))) (fun b h => h.elim) (by simp [maxLen]) _ rfl).mono (fun b hb => by rcases hb with h | h; exact h.elim; exact h)
theorem six_reads (w : World) : Reads (w.alloc (.cells #[.int .u64 42, .int .u64 17, .int .u64 33, .int .u64 42, .int .u64 7, .int .u64 7] 31)) (w.alloc (.cells #[.int .u64 42, .int .u64 17, .int .u64 33, .int .u64 42, .int .u64 7, .int .u64 7] 31)).heap.size 1 (some ⟨w.heap.size, 0, none⟩) 6 (u64s [42, 17, 33, 42, 7, 7]) :=
  ⟨rfl, fun _ => ⟨_, rfl, by simp, fun j u hj => by
    have hb := Blk.new w 31 #[.int .u64 42, .int .u64 17, .int .u64 33, .int .u64 42, .int .u64 7, .int .u64 7]
    match j with
    | 0 => simp [u64s] at hj; subst hj; exact hb.cell 0
    | 1 => simp [u64s] at hj; subst hj; exact hb.cell 1
    | 2 => simp [u64s] at hj; subst hj; exact hb.cell 2
    | 3 => simp [u64s] at hj; subst hj; exact hb.cell 3
    | 4 => simp [u64s] at hj; subst hj; exact hb.cell 4
    | 5 => simp [u64s] at hj; subst hj; exact hb.cell 5
    | j + 6 => simp [u64s] at hj⟩⟩
/-- The heap in the walk. -/
def St (W wr : World) (F : Nat → Prop) (gh g : Nat) (H : List It) : Prop := Hp wr F gh g [] 8 H ∧ (∀ k, F k → W.heap.size ≤ k) ∧ Below W.heap.size W wr
theorem St.below {W w w' : World} {F : Nat → Prop} {gh g : Nat} {H : List It} (h : St W w F gh g H) (hb : Below w.heap.size w w') : St W w' F gh g H := ⟨h.1.below hb, h.2.1, fbelow h.2.2 hb⟩
theorem St.moved {W w w' : World} {F : Nat → Prop} {gh g : Nat} {H H' : List It} (h : St W w F gh g H) (hm : HMoved w F gh g [] 8 H' w') : ∃ F', St W w' F' gh g H' ∧ (∀ k, F' k → F k ∨ w.heap.size ≤ k) ∧ Keep F w w' := by
  obtain ⟨F', h1, h2, h3⟩ := hm
  have hs := h.2.2.size
  exact ⟨F', ⟨h1, fun k hk => by
    rcases h2 k hk with e | e
    · exact h.2.1 k e
    · omega, Keep.below h.2.2 h3 h.2.2.size (fun i hi hf => by have := h.2.1 i hf; omega)⟩, h2, h3⟩
set_option maxRecDepth 100000 in
set_option maxHeartbeats 1600000 in
theorem known_any (w : World) : Calls Try.prog 3 #[] w fun e w' => e = .returned (.bool true) ∧ Below w.heap.size w w' := by
  have HE := Lib.hid (eight_any w)
  have HN := Lib.hid (fun n w => num_val n w)
  have HT := Lib.hid (fun A m c w => tup_val A m c w)
  go_enter Try.func3, Try.ntmps3
  go_wp2_with fail
  refine HE.out.mono ?_
  rintro e w1 ⟨gh, g, F, rfl, hH1, hF1, hb1⟩
  have HS1 := Lib.hid (show St w w1 F gh g H8 from ⟨hH1, hF1, hb1⟩)
  clear hH1 hF1 hb1
  go_wp2_with fail
  refine (awake_any _).mono ?_
  rintro e w2 ⟨rfl, hb2⟩
  have HS2 := Lib.hid (HS1.out.below hb2)
  clear hb2
  go_wp2_with fail
  refine (HN.out 1 _).mono ?_
  rintro e w3 ⟨rfl, hb3⟩
  have HS3 := Lib.hid (HS2.out.below hb3)
  clear hb3
  go_wp2_with fail
  refine (HN.out 2 _).mono ?_
  rintro e w4 ⟨rfl, hb4⟩
  have HS4 := Lib.hid (HS3.out.below hb4)
  clear hb4
  go_wp2_with fail
  have hrow := lit2 (w := w4) (F := fun _ => False) (num_leaf w4 1 (by decide)) (num_leaf w4 2 (by decide)) (fun b h => h.elim)
  refine (HT.out _ _ _ _).mono ?_
  rintro e w5 ⟨rfl, hb5⟩
  have hb45 := ballocs (Below.refl w4.heap.size w4) (.cells #[.int .i64 1, .int .i64 1, .string ⟨#[]⟩, .slice none 0 0, .int .i64 1, .int .i64 2, .string ⟨#[]⟩, .slice none 0 0] 28)
  obtain ⟨r3, hr3⟩ : ∃ r3, w4.heap.size = r3 := ⟨_, rfl⟩
  have hT5 : TAt w5 (fun b => b = w4.heap.size) two (.agg #[.int .i64 7, .int .i64 0, .string ⟨#[]⟩, .slice (some ⟨w4.heap.size, 0, none⟩) 2 2]) :=
    TAt.of (t := two) (A := some ⟨w4.heap.size, 0, none⟩) (c := 2) ⟨by decide, by decide, by decide, by decide, by decide, fun h => by cases h⟩ ((hrow.keep (w' := w5) (fun p hp => hb5.cell (by rcases hp with hp | hp; exact hp.elim; simp only [World.size_alloc]; omega))).mono (fun b hb => by rcases hb with h | h; exact h.elim; exact h))
  have hz5 : w4.heap.size < w5.heap.size := by have := hb5.size; simp only [World.size_alloc] at this; omega
  have HS5 := Lib.hid ((HS4.out.below hb45).below hb5)
  have hr4 : ¬ F w4.heap.size := fun h => by have := HS4.out.1.lt _ h; omega
  rw [hr3] at hT5 hz5 hr4 ⊢
  clear hrow hb5 hb45 hr3
  have hb6 := ballocs (Below.refl w5.heap.size w5) (.cells #[.int .i64 7, .int .i64 0, .string ⟨#[]⟩, .slice (some ⟨r3, 0, none⟩) 2 2] 28)
  have hbk := Blk.new w5 28 #[.int .i64 7, .int .i64 0, .string ⟨#[]⟩, .slice (some ⟨r3, 0, none⟩) 2 2]
  have hS5' := HS5.out.below hb6
  have HCN := Lib.hid (cons_ok gh g [] 8 H8 7 8 _ F hS5'.1 may_78 (by rw [hW_H8]; decide))
  rw [hW_H8] at HCN
  have hT5' := hT5.keep (fun p hp => hb6.cell (by rw [hp]; exact hz5))
  obtain ⟨b3, hb3⟩ : ∃ b3, w5.heap.size = b3 := ⟨_, rfl⟩
  have hFb : ¬ F w5.heap.size := fun h => by have := HS5.out.1.lt _ h; omega
  rw [hb3] at hbk hFb hz5
  obtain ⟨w5b, hw5b⟩ : ∃ x, w5.alloc (.cells #[.int .i64 7, .int .i64 0, .string ⟨#[]⟩, .slice (some ⟨r3, 0, none⟩) 2 2] 28) = x := ⟨_, rfl⟩
  rw [hw5b] at hbk hS5' HCN hT5'
  have HS5b := Lib.hid hS5'; have HT5b := Lib.hid hT5'; have HBK := Lib.hid hbk; have HW5b := Lib.hid hw5b; have HB3 := Lib.hid hb3
  have HRF := Lib.hid (And.intro hr4 hFb)
  have HR3 := Lib.hid (show r3 < b3 from hz5)
  clear hT5 hz5 hr4 hb6 hbk hS5' hT5' hFb hw5b hb3
  go_wp2_with fail
  rw [HB3.out, HW5b.out]
  refine HCN.out.mono ?_
  rintro e w6 ⟨rfl, hm6⟩
  rw [show packW 9 (([42, 17, 33] : List Int).length : Int) = 57 from pack_57]
  obtain ⟨F6, hS6, hF6, hk6⟩ := HS5b.out.moved hm6
  have HS6 := Lib.hid hS6
  have hz6 : b3 < w6.heap.size := Nat.lt_of_lt_of_le HBK.out.lt hk6.size
  have ht6 := HT5b.out.keep (fun p hp => hk6.cell (by rw [hp]; have := HR3.out; have := HBK.out.lt; omega) (by rw [hp]; exact HRF.out.1))
  have hbk6 := HBK.out.keep hk6 HRF.out.2
  have HT6 := Lib.hid ht6
  have HTG := Lib.hid (show ∀ b, b = r3 → b < w6.heap.size ∧ True from fun b hb => ⟨by have := HR3.out; omega, trivial⟩)
  have HKP := Lib.hid (show ∀ wx, Below w6.heap.size w6 wx → wx.cell? ⟨b3, 0, none⟩ = some (.int .i64 7) ∧ wx.cell? ⟨b3, 1, none⟩ = some (.int .i64 0) ∧ wx.cell? ⟨b3, 2, none⟩ = some (.string ⟨#[]⟩) ∧ wx.cell? ⟨b3, 3, none⟩ = some (.slice (some ⟨r3, 0, none⟩) 2 2) from fun wx hb => by
    have h := hbk6.below hb hbk6.lt
    exact ⟨h.cell 0, h.cell 1, h.cell 2, h.cell 3⟩)
  have HH6 := Lib.hid hS6.1
  clear hm6 hS6 hF6 hk6 ht6 hbk6
  go_upto_region 6 with fail
  go_cut [6] (fun s6 wx => s6 = .bool true ∧ Below w6.heap.size w6 wx)
  case first =>
    have hb6d : Below w6.heap.size w6 w6.drew := btodrew (Below.refl _ _)
    refine wp_region_held_drew (S := fun wx => wx.cell? ⟨b3, 0, none⟩ = some (.int .i64 7) ∧ wx.cell? ⟨b3, 1, none⟩ = some (.int .i64 0) ∧ wx.cell? ⟨b3, 2, none⟩ = some (.string ⟨#[]⟩) ∧ wx.cell? ⟨b3, 3, none⟩ = some (.slice (some ⟨r3, 0, none⟩) 2 2)) (by kernel_rfl) (HKP.out _ (btodrew (Below.refl _ _))) (fun hHeld => ?_)
    refine wpAnyH_take (i := 0) (oi := ⟨some 42, _, _, _, _, _⟩) (v := ?_) rfl (by kernel_rfl) (by kernel_rfl) (by kernel_rfl) (fun _ _ _ h => h) (Or.inl ⟨by rfl, ?_⟩) (by assumption) ?_
    rotate_left
    · intro wS hSw; obtain ⟨hSa, hSb, hSc, hSd⟩ := hSw; go_simp; try with_reducible rfl
    try simp only [Act.put, List.setIfInBounds_toArray, List.set_cons_zero, List.set_cons_succ]
    refine wpAnyH_take (i := 1) (oi := ⟨some 43, _, _, _, _, _⟩) (v := ?_) rfl (by kernel_rfl) (by kernel_rfl) (by kernel_rfl) (fun _ _ _ h => h) (Or.inl ⟨by rfl, ?_⟩) (by assumption) ?_
    rotate_left
    · intro wS hSw; obtain ⟨hSa, hSb, hSc, hSd⟩ := hSw; go_simp; try with_reducible rfl
    try simp only [Act.put, List.setIfInBounds_toArray, List.set_cons_zero, List.set_cons_succ]
    refine wpAnyH_take (i := 2) (oi := ⟨some 44, _, _, _, _, _⟩) (v := ?_) rfl (by kernel_rfl) (by kernel_rfl) (by kernel_rfl) (fun _ _ _ h => h) (Or.inl ⟨by rfl, ?_⟩) (by assumption) ?_
    rotate_left
    · intro wS hSw; obtain ⟨hSa, hSb, hSc, hSd⟩ := hSw; go_simp; try with_reducible rfl
    try simp only [Act.put, List.setIfInBounds_toArray, List.set_cons_zero, List.set_cons_succ]
    refine wpAnyH_take (i := 3) (oi := ⟨some 45, _, _, _, _, _⟩) (v := ?_) rfl (by kernel_rfl) (by kernel_rfl) (by kernel_rfl) (fun _ _ _ h => h) (Or.inl ⟨by rfl, ?_⟩) (by assumption) ?_
    rotate_left
    · intro wS hSw; obtain ⟨hSa, hSb, hSc, hSd⟩ := hSw; go_simp; try with_reducible rfl
    try simp only [Act.put, List.setIfInBounds_toArray, List.set_cons_zero, List.set_cons_succ]
    refine wpAnyH_take (i := 4) (oi := ⟨some 46, _, _, _, _, _⟩) (v := ?_) rfl (by kernel_rfl) (by kernel_rfl) (by kernel_rfl) (fun _ _ _ h => h) (Or.inl ⟨by rfl, ?_⟩) (by assumption) ?_
    rotate_left
    · intro wS hSw; obtain ⟨hSa, hSb, hSc, hSd⟩ := hSw; go_simp; try with_reducible rfl
    try simp only [Act.put, List.setIfInBounds_toArray, List.set_cons_zero, List.set_cons_succ]
    refine wpAnyH_take (i := 5) (oi := ⟨some 47, _, _, _, _, _⟩) (v := ?_) rfl (by kernel_rfl) (by kernel_rfl) (by kernel_rfl) (fun _ _ _ h => h) (Or.inl ⟨by rfl, ?_⟩) (by assumption) ?_
    rotate_left
    · intro wS hSw; obtain ⟨hSa, hSb, hSc, hSd⟩ := hSw; go_simp; try with_reducible rfl
    try simp only [Act.put, List.setIfInBounds_toArray, List.set_cons_zero, List.set_cons_succ]
    refine wpAnyH_take (i := 6) (oi := ⟨some 48, _, _, _, _, _⟩) (v := ?_) rfl (by kernel_rfl) (by kernel_rfl) (by kernel_rfl) (fun _ _ _ h => h) (Or.inl ⟨by rfl, ?_⟩) (by assumption) ?_
    rotate_left
    · intro wS hSw; obtain ⟨hSa, hSb, hSc, hSd⟩ := hSw; go_simp; try with_reducible rfl
    try simp only [Act.put, List.setIfInBounds_toArray, List.set_cons_zero, List.set_cons_succ]
    refine wpAnyH_take (i := 7) (oi := ⟨some 49, _, _, _, _, _⟩) (v := ?_) rfl (by kernel_rfl) (by kernel_rfl) (by kernel_rfl) (fun _ _ _ h => h) (Or.inl ⟨by rfl, ?_⟩) (by assumption) ?_
    rotate_left
    · intro wS hSw; obtain ⟨hSa, hSb, hSc, hSd⟩ := hSw; go_simp; try with_reducible rfl
    try simp only [Act.put, List.setIfInBounds_toArray, List.set_cons_zero, List.set_cons_succ]
    refine wpAnyH_take (i := 8) (oi := ⟨some 50, _, _, _, _, _⟩) (v := ?_) rfl (by kernel_rfl) (by kernel_rfl) (by kernel_rfl) (fun _ _ _ h => h) (Or.inl ⟨by rfl, ?_⟩) (by assumption) ?_
    rotate_left
    · intro wS hSw; obtain ⟨hSa, hSb, hSc, hSd⟩ := hSw; go_simp; try with_reducible rfl
    try simp only [Act.put, List.setIfInBounds_toArray, List.set_cons_zero, List.set_cons_succ]
    refine wpAnyH_ready (rs := [9, 10]) (by kernel_rfl) (by simp) ?_
    refine AllReadyH.cons (o := ⟨some 51, _, _, _, _, _⟩) rfl (fun K hK => ?_) ?_
    · go_simp
      refine hK.out _ _ (HKP.out _ (by first | assumption | exact btodrew (ballocs (Below.refl _ _) _) | exact ballocs (by assumption) _)) (fun hHeld => ?_)
      clear hK K
      try simp only [Act.put, List.setIfInBounds_toArray, List.set_cons_zero, List.set_cons_succ]
      refine wpAnyH_ready (rs := [10]) (by kernel_rfl) (by simp) ?_
      refine AllReadyH.cons (o := ⟨some 52, _, _, _, _, _⟩) rfl (fun K hK => ?_) AllReadyH.nil
      go_simp
      go_at_call 13
      refine (none_val _).mono ?_
      rintro e wN ⟨rfl, hbN⟩
      have hbN6 : Below w6.heap.size w6 wN := fbelow (by first | assumption | exact btodrew (ballocs (Below.refl _ _) _) | exact ballocs (by assumption) _) hbN
      go_wp2_with fail
      refine hK.out _ _ (HKP.out _ (by first | assumption | exact btodrew (ballocs (Below.refl _ _) _) | exact ballocs (by assumption) _)) (fun hHeld => ?_)
      clear hK K
      try simp only [Act.put, List.setIfInBounds_toArray, List.set_cons_zero, List.set_cons_succ]
      refine wpAnyH_ready (rs := [11]) (by kernel_rfl) (by simp) ?_
      refine AllReadyH.cons (o := ⟨some 53, _, _, _, _, _⟩) rfl (fun K hK => ?_) AllReadyH.nil
      go_simp
      have hrw := lit1 HT6.out (fun b hb => (HTG.out b hb).1)
      have hta : TsA wN (some ⟨w6.heap.size, 0, none⟩) [two] := (hrw.keep (fun p hp => hbN.cell (by show p.block < (w6.alloc _).heap.size; simp only [World.size_alloc]; rcases hp with h | h; (have := (HTG.out _ h).1; omega); omega))).mono (fun b hb => by have h0 : (w6.alloc _).heap.size ≤ wN.heap.size := hbN.size; simp only [World.size_alloc] at h0; rcases hb with h | h; (have := (HTG.out _ h).1; omega); omega)
      have HPR := Lib.hid (pairs_any [two] tnil _ 1 _ wN hta (nil_leaf wN) (by decide))
      go_at_call 12
      refine HPR.out.mono ?_
      rintro e wP ⟨vP, rfl, htP, hbP⟩
      obtain ⟨AP, cP, rfl, _, _⟩ := htP.inv
      have hbP6 : Below w6.heap.size w6 wP := fbelow (by first | assumption | exact btodrew (ballocs (Below.refl _ _) _) | exact ballocs (by assumption) _) hbP
      have HTP := Lib.hid htP
      clear hrw hta HPR htP
      unfold tv
      go_wp2_with fail
      refine hK.out _ _ (HKP.out _ (by first | assumption | exact btodrew (ballocs (Below.refl _ _) _) | exact ballocs (by assumption) _)) (fun hHeld => ?_)
      clear hK K
      try simp only [Act.put, List.setIfInBounds_toArray, List.set_cons_zero, List.set_cons_succ]
      refine wpAnyH_ready (rs := [12]) (by kernel_rfl) (by simp) ?_
      refine AllReadyH.cons (o := ⟨some 54, _, _, _, _, _⟩) rfl (fun K hK => ?_) AllReadyH.nil
      go_simp
      have HGT := Lib.hid (got_any gh g [] 8 H9 twoC twoC 57 _ wP F6 (HH6.out.below hbP6) rep_twoC (by rw [wds_twoC]; omega) HTP.out)
      rw [eqT_self] at HGT
      unfold tv at HGT
      go_at_call 11
      refine HGT.out.mono ?_
      rintro e wG ⟨rfl, hbG⟩
      have hbG6 : Below w6.heap.size w6 wG := fbelow hbP6 hbG
      clear HGT
      go_wp2_with fail
      refine hK.out _ _ (HKP.out _ (by first | assumption | exact btodrew (ballocs (Below.refl _ _) _) | exact ballocs (by assumption) _)) (fun hHeld => ?_)
      clear hK K
      try simp only [Act.put, List.setIfInBounds_toArray, List.set_cons_zero, List.set_cons_succ]
      refine wpAnyH_take (i := 13) (oi := ⟨some 55, _, _, _, _, _⟩) (v := ?_) rfl (by kernel_rfl) (by kernel_rfl) (by kernel_rfl) (fun _ _ _ h => h) (Or.inl ⟨by rfl, ?_⟩) (by assumption) ?_
      rotate_left
      · intro wS hSw; obtain ⟨hSa, hSb, hSc, hSd⟩ := hSw; go_simp; try with_reducible rfl
      try simp only [Act.put, List.setIfInBounds_toArray, List.set_cons_zero, List.set_cons_succ]
      refine wpAnyH_take (i := 14) (oi := ⟨some 6, _, _, _, _, _⟩) (v := ?_) rfl (by kernel_rfl) (by kernel_rfl) (by kernel_rfl) (fun _ _ _ h => h) (Or.inl ⟨by rfl, ?_⟩) (by assumption) ?_
      rotate_left
      · intro wS hSw; obtain ⟨hSa, hSb, hSc, hSd⟩ := hSw; go_simp; try with_reducible rfl
      try simp only [Act.put, List.setIfInBounds_toArray, List.set_cons_zero, List.set_cons_succ]
      refine wpAnyH_done (by kernel_rfl) ?_ _
      go_wp2_with fail
      go_meet
      exact ⟨rfl, hbG6⟩
    refine AllReadyH.cons (o := ⟨some 52, _, _, _, _, _⟩) rfl (fun K hK => ?_) ?_
    · go_simp
      go_at_call 13
      refine (none_val _).mono ?_
      rintro e wN ⟨rfl, hbN⟩
      have hbN6 : Below w6.heap.size w6 wN := fbelow (by first | assumption | exact btodrew (ballocs (Below.refl _ _) _) | exact ballocs (by assumption) _) hbN
      go_wp2_with fail
      refine hK.out _ _ (HKP.out _ (by first | assumption | exact btodrew (ballocs (Below.refl _ _) _) | exact ballocs (by assumption) _)) (fun hHeld => ?_)
      clear hK K
      try simp only [Act.put, List.setIfInBounds_toArray, List.set_cons_zero, List.set_cons_succ]
      refine wpAnyH_ready (rs := [9]) (by kernel_rfl) (by simp) ?_
      refine AllReadyH.cons (o := ⟨some 51, _, _, _, _, _⟩) rfl (fun K hK => ?_) AllReadyH.nil
      go_simp
      refine hK.out _ _ (HKP.out _ (by first | assumption | exact btodrew (ballocs (Below.refl _ _) _) | exact ballocs (by assumption) _)) (fun hHeld => ?_)
      clear hK K
      try simp only [Act.put, List.setIfInBounds_toArray, List.set_cons_zero, List.set_cons_succ]
      refine wpAnyH_ready (rs := [11]) (by kernel_rfl) (by simp) ?_
      refine AllReadyH.cons (o := ⟨some 53, _, _, _, _, _⟩) rfl (fun K hK => ?_) AllReadyH.nil
      go_simp
      have hrw := lit1 (HT6.out.keep (fun p hp => hbN6.cell (HTG.out _ hp).1)) (fun b hb => Nat.lt_of_lt_of_le (HTG.out b hb).1 hbN6.size)
      have hta : TsA (wN.alloc (.cells #[.int .i64 7, .int .i64 0, .string ⟨#[]⟩, .slice (some ⟨r3, 0, none⟩) 2 2] 28)) (some ⟨wN.heap.size, 0, none⟩) [two] := hrw.mono (fun b hb => by simp only [World.size_alloc]; rcases hb with h | h; (have := (HTG.out _ h).1; have := hbN6.size; omega); omega)
      have HPR := Lib.hid (pairs_any [two] tnil _ 1 _ (wN.alloc (.cells #[.int .i64 7, .int .i64 0, .string ⟨#[]⟩, .slice (some ⟨r3, 0, none⟩) 2 2] 28)) hta (nil_leaf _) (by decide))
      go_at_call 12
      refine HPR.out.mono ?_
      rintro e wP ⟨vP, rfl, htP, hbP⟩
      obtain ⟨AP, cP, rfl, _, _⟩ := htP.inv
      have hbP6 : Below w6.heap.size w6 wP := fbelow (by first | assumption | exact btodrew (ballocs (Below.refl _ _) _) | exact ballocs (by assumption) _) hbP
      have HTP := Lib.hid htP
      clear hrw hta HPR htP
      unfold tv
      go_wp2_with fail
      refine hK.out _ _ (HKP.out _ (by first | assumption | exact btodrew (ballocs (Below.refl _ _) _) | exact ballocs (by assumption) _)) (fun hHeld => ?_)
      clear hK K
      try simp only [Act.put, List.setIfInBounds_toArray, List.set_cons_zero, List.set_cons_succ]
      refine wpAnyH_ready (rs := [12]) (by kernel_rfl) (by simp) ?_
      refine AllReadyH.cons (o := ⟨some 54, _, _, _, _, _⟩) rfl (fun K hK => ?_) AllReadyH.nil
      go_simp
      have HGT := Lib.hid (got_any gh g [] 8 H9 twoC twoC 57 _ wP F6 (HH6.out.below hbP6) rep_twoC (by rw [wds_twoC]; omega) HTP.out)
      rw [eqT_self] at HGT
      unfold tv at HGT
      go_at_call 11
      refine HGT.out.mono ?_
      rintro e wG ⟨rfl, hbG⟩
      have hbG6 : Below w6.heap.size w6 wG := fbelow hbP6 hbG
      clear HGT
      go_wp2_with fail
      refine hK.out _ _ (HKP.out _ (by first | assumption | exact btodrew (ballocs (Below.refl _ _) _) | exact ballocs (by assumption) _)) (fun hHeld => ?_)
      clear hK K
      try simp only [Act.put, List.setIfInBounds_toArray, List.set_cons_zero, List.set_cons_succ]
      refine wpAnyH_take (i := 13) (oi := ⟨some 55, _, _, _, _, _⟩) (v := ?_) rfl (by kernel_rfl) (by kernel_rfl) (by kernel_rfl) (fun _ _ _ h => h) (Or.inl ⟨by rfl, ?_⟩) (by assumption) ?_
      rotate_left
      · intro wS hSw; obtain ⟨hSa, hSb, hSc, hSd⟩ := hSw; go_simp; try with_reducible rfl
      try simp only [Act.put, List.setIfInBounds_toArray, List.set_cons_zero, List.set_cons_succ]
      refine wpAnyH_take (i := 14) (oi := ⟨some 6, _, _, _, _, _⟩) (v := ?_) rfl (by kernel_rfl) (by kernel_rfl) (by kernel_rfl) (fun _ _ _ h => h) (Or.inl ⟨by rfl, ?_⟩) (by assumption) ?_
      rotate_left
      · intro wS hSw; obtain ⟨hSa, hSb, hSc, hSd⟩ := hSw; go_simp; try with_reducible rfl
      try simp only [Act.put, List.setIfInBounds_toArray, List.set_cons_zero, List.set_cons_succ]
      refine wpAnyH_done (by kernel_rfl) ?_ _
      go_wp2_with fail
      go_meet
      exact ⟨rfl, hbG6⟩
    exact AllReadyH.nil
  case rest =>
  obtain ⟨rfl, hb7⟩ := hcut
  obtain ⟨w7, hw7⟩ : ∃ z, wc = z := ⟨_, rfl⟩
  rw [hw7] at hb7 ⊢
  have HS7 := Lib.hid (HS6.out.below hb7)
  clear hb7 hw7 hz6 HKP HT6 HTG
  go_wp2_with fail
  refine (HN.out 1 _).mono ?_
  rintro e w8 ⟨rfl, hb8⟩
  have HS8 := Lib.hid (HS7.out.below hb8)
  clear hb8
  go_wp2_with fail
  refine (HN.out 2 _).mono ?_
  rintro e w9 ⟨rfl, hb9⟩
  have HS9 := Lib.hid (HS8.out.below hb9)
  clear hb9
  go_wp2_with fail
  refine (HN.out 3 _).mono ?_
  rintro e w10 ⟨rfl, hb10⟩
  have HS10 := Lib.hid (HS9.out.below hb10)
  clear hb10
  go_wp2_with fail
  refine (HN.out 4 _).mono ?_
  rintro e w11 ⟨rfl, hb11⟩
  have HS11 := Lib.hid (HS10.out.below hb11)
  clear hb11
  go_wp2_with fail
  have hrow := lit4 (w := w11) (n1 := 1) (n2 := 2) (n3 := 3) (n4 := 4) (by decide) (by decide) (by decide) (by decide)
  have hb1112 := ballocs (Below.refl w11.heap.size w11) (.cells #[.int .i64 1, .int .i64 1, .string ⟨#[]⟩, .slice none 0 0, .int .i64 1, .int .i64 2, .string ⟨#[]⟩, .slice none 0 0, .int .i64 1, .int .i64 3, .string ⟨#[]⟩, .slice none 0 0, .int .i64 1, .int .i64 4, .string ⟨#[]⟩, .slice none 0 0] 28)
  refine (HT.out _ _ _ _).mono ?_
  rintro e w12 ⟨rfl, hb12⟩
  have hT12 : TAt w12 (fun b => b = w11.heap.size) four (.agg #[.int .i64 7, .int .i64 0, .string ⟨#[]⟩, .slice (some ⟨w11.heap.size, 0, none⟩) 4 4]) :=
    TAt.of (t := four) (A := some ⟨w11.heap.size, 0, none⟩) (c := 4) ⟨by decide, by decide, by decide, by decide, by decide, fun h => by cases h⟩ (hrow.keep (w' := w12) (fun p hp => hb12.cell (by rw [hp]; simp only [World.size_alloc]; omega)))
  have hz12 : w11.heap.size < w12.heap.size := by have := hb12.size; simp only [World.size_alloc] at this; omega
  have hS12 := (HS11.out.below hb1112).below hb12
  have HPT := Lib.hid (put_any gh g [] 8 H9 four _ w12 _ (fun b => b = w11.heap.size) hS12.1 hT12 (fun b hb => ⟨by omega, fun h => by have := HS11.out.1.lt _ h; omega⟩) (by rw [nodes_four]; decide))
  rw [putW_four, putE_four, putH_four, flL_four] at HPT
  have HS12 := Lib.hid hS12
  clear hrow hb1112 hb12 hT12 hz12 hS12
  go_wp2_with fail
  refine HPT.out.mono ?_
  rintro e w13 ⟨rfl, hm13⟩
  obtain ⟨F13, hS13, _, _⟩ := HS12.out.moved hm13
  have hb14 := ballocs (Below.refl w13.heap.size w13) (.cells #[.int .u64 7] 31)
  have HCL := Lib.hid (collect_any gh g [] 8 H9 [7] (w13.alloc (.cells #[.int .u64 7] 31)) F13 (hS13.below hb14).1 (some ⟨w13.heap.size, 0, none⟩) 1 (one_reads w13 7) may_7 (by decide))
  have HS14 := Lib.hid (hS13.below hb14)
  clear hm13 hS13 hb14
  go_wp2_with fail
  refine HCL.out.mono ?_
  rintro e w15 ⟨ps, A15, c15, F15, hrun, rfl, ho15, hno15, hH15, hF15, hk15⟩
  obtain rfl : [0] = ps := run_7.det hrun
  rw [col_7] at hH15
  rw [show ([7] : List Int).map (reloc H9 [0]) = [7] from by rw [List.map_cons, List.map_nil, reloc_7]] at ho15
  obtain ⟨F15', hS15, hF15', hk15'⟩ := HS14.out.moved ⟨F15, hH15, hF15, hk15⟩
  have HS15 := Lib.hid hS15
  have HO15 := Lib.hid ho15
  clear hrun hno15 hH15 hF15 hk15 hS15 hF15' hk15' ho15
  go_wp2_with fail
  have HSW := Lib.hid (sameWords_yes A15 (some ⟨w15.heap.size, 0, none⟩) c15 1 _ _ [7] (w15.alloc (.cells #[.int .u64 7] 31)) ((Reads.of_own HO15.out).alloc (Nat.le_refl _) _) (one_reads w15 7) (by decide))
  have HS16 := Lib.hid (HS15.out.below (ballocs (Below.refl _ _) (.cells #[.int .u64 7] 31)))
  refine HSW.out.mono ?_
  rintro e w17 ⟨rfl, n17, h17⟩
  have HS17 := Lib.hid (HS16.out.below (w' := w17) (by rw [h17]; exact fdrewN (Below.refl _ _) _))
  clear h17
  go_wp2_with fail
  have HUS := Lib.hid (used_any gh g [] 8 H8 _ _ HS17.out.1)
  rw [hW_H8] at HUS
  refine HUS.out.mono ?_
  rintro e w18 ⟨rfl, h18⟩
  obtain rfl : w17 = w18 := h18.symm
  go_wp2_with fail
  refine (get_bad gh g [] 8 H8 57 _ _ HS17.out.1 (by unfold U64; omega) may_57).mono ?_
  rintro e w18 ⟨rfl, hb18⟩
  have HS18 := Lib.hid ((HS17.out.below hb18).below (ballocs (Below.refl w18.heap.size w18) (.cells #[.int .i64 0, .int .i64 0, .string ⟨#[]⟩, .slice none 0 0] 28)))
  clear hb18
  go_wp2_with fail
  obtain ⟨w19, hw19⟩ : ∃ z, w18.alloc (.cells #[.int .i64 0, .int .i64 0, .string ⟨#[]⟩, .slice none 0 0] 28) = z := ⟨_, rfl⟩
  have hb20 := ballocs (Below.refl w19.heap.size w19) (.cells #[.int .u64 7, .int .u64 7] 31)
  rw [hw19] at HS18
  have hz19 : w19.heap.size = w18.heap.size + 1 := by rw [← hw19]; simp
  have HTU := Lib.hid (tuple_ok gh g [] 8 H8 [7, 7] _ _ (HS18.out.below hb20).1 2 2 rfl (by decide) may_77 (some ⟨w19.heap.size, 0, none⟩) (two_reads w19 7 7) (fun a ha hf => by injection ha with ha; subst ha; have := HS18.out.1.lt _ hf; simp only at this; omega) (by rw [hW_H8]; decide))
  rw [hW_H8, hz19] at HTU
  rw [hw19]
  clear hw19 hz19
  have HS20 := Lib.hid (HS18.out.below hb20)
  clear hb20
  refine HTU.out.mono ?_
  rintro e w21 ⟨rfl, hm21⟩
  rw [show packW 7 (([42, 17, 33] : List Int).length : Int) = 55 from pack_55]
  obtain ⟨F21, hS21, _, _⟩ := HS20.out.moved hm21
  have HS21 := Lib.hid hS21
  clear hm21 hS21
  go_wp2_with fail
  refine (hparts_ok gh g [] 8 H10 55 _ _ HS21.out.1 (by unfold U64; omega) may_55 [7, 7] parts_55).mono ?_
  rintro e w22 ⟨A22, c22, rfl, ho22, hb22⟩
  have HS22 := Lib.hid (HS21.out.below hb22)
  have HR22 := Lib.hid (Reads.of_own ho22)
  clear ho22 hb22
  go_wp2_with fail
  refine (hparts_ok gh g [] 8 H10 17 _ _ HS22.out.1 (by unfold U64; omega) may_17 [] parts_17).mono ?_
  rintro e w23 ⟨A23, c23, rfl, ho23, hb23⟩
  have HS23 := Lib.hid (HS22.out.below hb23)
  have HR23 := Lib.hid ((HR22.out.below hb23).more hb23.size)
  clear ho23 hb23
  go_wp2_with fail
  refine (get_bad gh g [] 8 H10 23 _ _ HS23.out.1 (by unfold U64; omega) may_23).mono ?_
  rintro e w24 ⟨rfl, hb24⟩
  have HB24 := Lib.hid (fbelow hb24 (ballocs (Below.refl w24.heap.size w24) (.cells #[.int .i64 0, .int .i64 0, .string ⟨#[]⟩, .slice none 0 0] 28)))
  have HS24 := Lib.hid (HS23.out.below HB24.out)
  have HR24 := Lib.hid ((HR23.out.below HB24.out).more HB24.out.size)
  clear hb24
  go_wp2_with fail
  refine (words_any gh g [] 8 H10 _ _ HS24.out.1).mono ?_
  rw [hW_H10]
  rintro e w25 ⟨A25, c25, rfl, ho25, hb25⟩
  have HR25 := Lib.hid (Reads.of_own ho25)
  have HS25 := Lib.hid (HS24.out.below hb25)
  have HR24' := Lib.hid ((HR24.out.below hb25).more hb25.size)
  clear ho25 hb25
  go_wp2_with fail
  have HSW := Lib.hid (sameWords_yes A25 (some ⟨w25.heap.size, 0, none⟩) c25 6 _ _ [42, 17, 33, 42, 7, 7] (w25.alloc (.cells #[.int .u64 42, .int .u64 17, .int .u64 33, .int .u64 42, .int .u64 7, .int .u64 7] 31)) (HR25.out.alloc (Nat.le_refl _) _) (six_reads w25) (by decide))
  have hb26 := ballocs (Below.refl w25.heap.size w25) (.cells #[.int .u64 42, .int .u64 17, .int .u64 33, .int .u64 42, .int .u64 7, .int .u64 7] 31)
  have HS26 := Lib.hid (HS25.out.below hb26)
  have HR26 := Lib.hid ((HR24'.out.below hb26).more hb26.size)
  clear hb26
  refine HSW.out.mono ?_
  rintro e w27 ⟨rfl, n27, h27⟩
  have hb27 : Below (w25.alloc (.cells #[.int .u64 42, .int .u64 17, .int .u64 33, .int .u64 42, .int .u64 7, .int .u64 7] 31)).heap.size (w25.alloc (.cells #[.int .u64 42, .int .u64 17, .int .u64 33, .int .u64 42, .int .u64 7, .int .u64 7] 31)) w27 := by rw [h27]; exact fdrewN (Below.refl _ _) _
  have HS27 := Lib.hid (HS26.out.below hb27)
  have HR27 := Lib.hid ((HR26.out.below hb27).more hb27.size)
  clear h27 hb27
  go_wp2_with fail
  have HSW2 := Lib.hid (sameWords_yes A22 (some ⟨w27.heap.size, 0, none⟩) c22 2 _ _ [7, 7] (w27.alloc (.cells #[.int .u64 7, .int .u64 7] 31)) (HR27.out.alloc (Nat.le_refl _) _) (two_reads w27 7 7) (by decide))
  have HS28 := Lib.hid (HS27.out.below (ballocs (Below.refl w27.heap.size w27) (.cells #[.int .u64 7, .int .u64 7] 31)))
  refine HSW2.out.mono ?_
  rintro e w29 ⟨rfl, n29, h29⟩
  have HS29 := Lib.hid (HS28.out.below (w' := w29) (by rw [h29]; exact fdrewN (Below.refl _ _) _))
  clear h29
  go_wp2_with fail
  go_ret
  exact ⟨rfl, HS29.out.2.2⟩
theorem contract (W : World) : Calls Try.prog 3 #[] W fun e w' => e = .returned (.bool true) ∧ Below W.heap.size W w' := known_any W

theorem own : ownKnob Try.prog.godebug = none := by kernel_rfl
theorem laidOut : laidOutB Try.prog = true := by kernel_rfl
theorem readable : ∀ t ∈ Try.f3.params.toList, Try.prog.readableRec t = true ∧ t < Try.prog.types.size := by
  rw [show Try.f3.params = #[] from Try.params3]
  intro t h; simp at h
set_option maxRecDepth 100000 in
theorem lifted (os : Os) (started : os.Started) (H : Type) (enc : TypeId × Value → H) :
    ReturnsInHanded {} Try.checked os 3 .any (Rows.heapKnownSpec.pre6 enc Try.prog Try.f3 Rows.heapKnownRow.domain false) (Rows.heapKnownSpec.post enc Try.prog Try.f3 false true false false) := by
  refine K.law_lift (C := Try.checked) (b := 4) own started (by kernel_rfl) Try.func3
    (ChangeSpec.witness6 (enc := enc) (C := Try.checked) false ⟨#[], #[], []⟩ 8 (by kernel_rfl) (by kernel_rfl) (by kernel_rfl) (by kernel_rfl)) laidOut readable rfl rfl Try.underlying4 ?_ ?_
  · intro ds hds
    rw [show Try.f3.params = #[] from Try.params3] at hds
    match ds, hds with
    | [], _ => rfl
  · intro W base args ds p hval hA hlt hsz
    rw [show Try.checked.prog = Try.prog from rfl] at hval hA hsz
    rw [show Try.f3.params = #[] from Try.params3] at hA hval hsz
    obtain ⟨hargs, rfl, rfl⟩ := trodAll_nil hA
    obtain rfl : args = #[] := by cases args; simp_all
    exact contract W

theorem over : Rows.heapKnownRow.holds Try.pinned (OpenSpec.ofChange Rows.heapKnownSpec) :=
  OpenClaim.holds_of_wide 3 Try.f3 rfl rfl rfl rfl rfl rfl rfl ⟨rfl, rfl, rfl, rfl, rfl⟩ rfl rfl rfl rfl rfl (by kernel_rfl) Try.func3 (by kernel_rfl)
    (of_decide_eq_true (by kernel_rfl)) (by unfold Func.isWrapper; rw [if_neg (of_decide_eq_false (by kernel_rfl))]; exact ⟨rfl, rfl⟩)
    (fun os started H enc _ => lifted os started H enc)

/-- THE STATEMENT -/
theorem proved : Rows.HeapKnownSaid := over
#print axioms proved
end Go.Proofs.Ytnedjmjcbmoknaa.HeapKnown
