/- Get, Set and Drop of an arena, each by its contract. -/
import Derived.Test.YtnanacokclcbfaaLaw08
namespace Go.Proofs.Ytnanacokclcbfaa.Ar
open Go.RowKit K
set_option linter.unusedVariables false
set_option linter.unusedSimpArgs false

def gtE (B : Bks) (k : Int) : Int := if (bAt B k).isSome then 0 else 6
def gtL (B : Bks) (k : Int) : List Int := (bAt B k).getD []
def GtPost (w : World) (E : Int) (ws : List Int) (e : Ending) (w' : World) : Prop :=
  ∃ v, e = .returned (.tuple #[v, .int .i64 E]) ∧ w'.ownsRow w.heap.size 68 1 v ws.length (wds ws) ∧ Below w.heap.size w w'
theorem own_nil {w : World} {base : Nat} {e : TypeId} {size n c : Nat} {A : Option Addr} {xs : List Value} (h : w.ownsRow base e size (.slice A n c) n xs) : A = none → c = 0 := by
  rintro rfl
  rcases h.2 with ⟨h, _⟩ | ⟨g, cap, cur, h, _⟩
  · injection h
  · injection h with h; cases h
set_option maxRecDepth 100000 in
set_option maxHeartbeats 4000000 in
theorem get_any (g all n : Nat) (B : Bks) (k : Int) (w : World) (F : Nat → Prop) (hT : AR w F g all n B) (hk : (Lit.int .i64 k).wf = true) :
    Calls Try.prog 18 #[.pointer (some ⟨g, 0, none⟩), .int .i64 k] w (GtPost w (gtE B k) (gtL B k)) := by
  obtain ⟨bm, D, fl, fg, fm, hB, hM, hD, h1, h2, h3, h4⟩ := hT
  have c3 : w.cell? ⟨g, 3, none⟩ = some (.map (some bm)) := by rw [hB.cell]; rfl
  obtain ⟨hh, ha⟩ := hD.2 k
  cases hb : bAt B k with
  | none =>
    have E1 := Lib.hid (show gtE B k = 6 from by unfold gtE; rw [hb]; rfl)
    have E2 := Lib.hid (show gtL B k = [] from by unfold gtL; rw [hb]; rfl)
    rw [hb] at hh
    have HF := Lib.hid (find_no g bm n D k w c3 hM hk hh)
    have HC := Lib.hid (clone_u64 none 0 0 w.heap.size [] w Reads.none_ (Nat.le_refl _) (by simp) (by omega) (fun _ => rfl))
    clear ha hD hM hB hh hb h4
    go_enter Try.func18, Try.ntmps18
    go_wp2_with (first
      | (go_at_call 29; refine HF.out.mono ?_; rintro e w1 ⟨rfl, rfl⟩)
      | (go_at_call 28; refine HC.out.mono ?_; rintro e w2 ⟨v2, rfl, hR2, hb2⟩))
    go_ret2
    exact ⟨v2, by rw [E1.out]; rfl, by rw [E2.out]; exact hR2, hb2⟩
  | some ws =>
    have E1 := Lib.hid (show gtE B k = 0 from by unfold gtE; rw [hb]; rfl)
    have E2 := Lib.hid (show gtL B k = ws from by unfold gtL; rw [hb]; rfl)
    rw [hb] at hh
    obtain ⟨v, hv, hR, _⟩ := ha ws hb
    obtain ⟨A0, c0, rfl, _, _⟩ := ownsRow_form hR
    have hl := (h4.at_ hb).2
    have HF := Lib.hid (find_yes g bm n D k _ w c3 hM hk hh hv)
    have HC := Lib.hid (clone_u64 A0 ws.length c0 w.heap.size (wds ws) w (Reads.of_own hR) (Nat.le_refl _) (wds_one ws) (by omega) (own_nil hR))
    clear ha hD hM hB hh hb h4 hR hv
    go_enter Try.func18, Try.ntmps18
    go_wp2_with (first
      | (go_at_call 29; refine HF.out.mono ?_; rintro e w1 ⟨rfl, rfl⟩)
      | (go_at_call 28; refine HC.out.mono ?_; rintro e w2 ⟨v2, rfl, hR2, hb2⟩))
    go_ret2
    exact ⟨v2, by rw [E1.out]; rfl, by rw [E2.out]; exact hR2, hb2⟩

/-! ### Drop -/
def dpB (B : Bks) (k : Int) : Bks := if (bAt B k).isSome then B.set (k - 1).toNat none else B
theorem moved_del {w w1 w2 : World} {F : Nat → Prop} {g bm all n : Nat} {B : Bks} {D : DataW Value} {k u : Int} {cs : Array Value} (fl : ∀ k, F k → k < w.heap.size) (fg : F g) (fm : F bm)
    (hB : Blk w g 51 cs) (hM : w.ownsMap Try.prog 3 RV bm n D) (hD : MapIs w F D B) (K1 : Keep (fun k => k = g) w w1) (hg : w1.grownBy w2 (some bm))
    (hM2 : w2.ownsMap Try.prog 3 RV bm n (D.del (ky k))) (hB2 : Blk w2 g 51 #[.int .i64 (all : Int), .int .i64 u, .int .i64 (B.length : Int), .map (some bm)])
    (k1 : 1 ≤ k) (k2 : k ≤ B.length) (hu : u = (used (B.set (k - 1).toNat none) : Int)) (h1 : all ≤ 16777216) (h2 : used (B.set (k - 1).toNat none) ≤ all) (h3 : B.length ≤ n) (h4 : LenOk B) : Moved w F g all n (B.set (k - 1).toNat none) w2 := by
  have s1 := K1.size
  have s2 := hg.size
  have K2 : Keep (fun k => k = g ∨ k = bm) w w2 := (K1.mono (fun i _ h => .inl h)).grown hg (fun k hk => by injection hk with hk; exact .inl (.inr hk.symm))
  refine ⟨F, ⟨bm, _, fun k hk => by have := fl k hk; omega, fg, fm, ?_, hM2, mapIs_del (hD.imp fun v ws hr => ⟨ownsRow_keep hr.1 K2 ?_, hr.2⟩) (bAt_set k1 k2 none), h1, h2, by simpa using h3, h4.drop _⟩, fun k hk => .inl hk, K2.mono (fun i hi h => by rcases h with rfl | rfl; exact fg; exact fm)⟩
  · rw [← hu]
    simpa using hB2
  · rintro r hr2 (rfl | rfl)
    · exact own_blk_ne hr.1 hB (by decide) hr2
    · exact map_row_ne hM hr.1 hr2
set_option maxRecDepth 100000 in
set_option maxHeartbeats 4000000 in
theorem drop_any (g all n : Nat) (B : Bks) (k : Int) (w : World) (F : Nat → Prop) (hT : AR w F g all n B) (hk : (Lit.int .i64 k).wf = true) :
    Calls Try.prog 15 #[.pointer (some ⟨g, 0, none⟩), .int .i64 k] w fun e w' => e = .returned (.int .i64 (gtE B k)) ∧ Moved w F g all n (dpB B k) w' := by
  have hT0 := hT
  have hkey : keyOf Try.prog 3 (.int .i64 k) = some (.int .i64 k) := Go.Maps.keyOf_int_mk Try.underlying3 hk
  obtain ⟨bm, D, fl, fg, fm, hB, hM, hD, h1, h2, h3, h4⟩ := hT
  have c1 : w.cell? ⟨g, 1, none⟩ = some (.int .i64 (used B : Int)) := by rw [hB.cell]; rfl
  have c3 : w.cell? ⟨g, 3, none⟩ = some (.map (some bm)) := by rw [hB.cell]; rfl
  have f1 : w.frozen? ⟨g, 1, none⟩ = false := hB.frozen 1
  obtain ⟨hh, ha⟩ := hD.2 k
  cases hb : bAt B k with
  | none =>
    have E1 := Lib.hid (show gtE B k = 6 from by unfold gtE; rw [hb]; rfl)
    have E2 := Lib.hid (show dpB B k = B from by unfold dpB; rw [hb]; rfl)
    rw [hb] at hh
    have HF := Lib.hid (find_no g bm n D k w c3 hM hk hh)
    have HT := Lib.hid (Moved.stay hT0)
    clear ha hD hM hB hh hb h4 hT0
    go_enter Try.func15, Try.ntmps15
    go_wp2_with (first
      | (go_at_call 29; refine HF.out.mono ?_; rintro e w1 ⟨rfl, rfl⟩))
    go_ret
    exact ⟨ret1_i E1.out.symm, by rw [E2.out]; exact HT.out⟩
  | some ws =>
    have E1 := Lib.hid (show gtE B k = 0 from by unfold gtE; rw [hb]; rfl)
    have E2 := Lib.hid (show dpB B k = B.set (k - 1).toNat none from by unfold dpB; rw [hb]; rfl)
    rw [hb] at hh
    obtain ⟨v, hv, hR, _⟩ := ha ws hb
    obtain ⟨A0, c0, rfl, _, _⟩ := ownsRow_form hR
    obtain ⟨l1, l2⟩ := h4.at_ hb
    obtain ⟨q, hq⟩ : ∃ q, rnd ws.length = q := ⟨_, rfl⟩
    obtain ⟨k1, k2, hgt⟩ := bAt_some hb
    have hud := used_drop hgt
    rw [hq] at hud
    have hR1 := fun w => round_nat ws.length l1 l2 w
    rw [hq] at hR1
    have HR := Lib.hid hR1
    have HF := Lib.hid (find_yes g bm n D k _ w c3 hM hk hh hv)
    have hbg : bm ≠ g := map_blk_ne hM hB
    have HB := Lib.hid hB; have HM := Lib.hid hM; have HD := Lib.hid hD; have H4 := Lib.hid h4; have HU := Lib.hid hud
    have hq0 : q ≤ used B := by omega
    clear ha hD hM hB hh hb h4 hR hv hgt hud hq hT0 hR1
    go_enter Try.func15, Try.ntmps15
    go_wp2_with (first
      | (go_at_call 29; refine HF.out.mono ?_; rintro e w1 ⟨rfl, rfl⟩))
    go_region_with (go_at_call 9; refine (HR.out _).mono ?_; rintro e w1 ⟨rfl, rfl⟩)
    all_goals
      have hw : IntKind.i64.wrap ((used B : Int) - (q : Int)) = (used B : Int) - (q : Int) := by
        have : (used B : Int) ≤ 16777216 := by omega
        rw [IntKind.wrap_i64]
        omega
      rw [hw]
      have K1 : Keep (fun k => k = g) w (w.setCell ⟨g, 1, none⟩ (.int .i64 ((used B : Int) - (q : Int)))).drew := ((Keep.refl (fun k => k = g) w).setCell (p := ⟨g, 1, none⟩) (.inl rfl) _).drew
      have hB1 : Blk (w.setCell ⟨g, 1, none⟩ (.int .i64 ((used B : Int) - (q : Int)))).drew g 51 #[.int .i64 (all : Int), .int .i64 ((used B : Int) - (q : Int)), .int .i64 (B.length : Int), .map (some bm)] := (HB.out.set_ 1 _).drew
      have hM1 : (w.setCell ⟨g, 1, none⟩ (.int .i64 ((used B : Int) - (q : Int)))).drew.ownsMap Try.prog 3 RV bm n D := (World.ownsMap.setCell HM.out hbg _).drew
      generalize (w.setCell ⟨g, 1, none⟩ (.int .i64 ((used B : Int) - (q : Int)))).drew = w1 at K1 hB1 hM1 ⊢
      have d3 : w1.cell? ⟨g, 3, none⟩ = some (.map (some bm)) := by rw [hB1.cell]; rfl
      clear c1 c3 f1
      go_wp2_with (at_delete; refine wpList_delete_own _ rfl _ _ 49 3 rfl 32 law Try.underlying49 RV bm n D rfl hM1 _ _ rfl hkey ?_; intro w2 hM2 ht2)
      go_ret
      refine ⟨ret1_i E1.out.symm, ?_⟩
      rw [E2.out]
      exact moved_del fl fg fm HB.out HM.out HD.out K1 ht2.grown hM2 (hB1.grown ht2.grown (by simpa using fun e => hbg e.symm)) k1 k2 (by have := HU.out; omega) h1 (by have := HU.out; omega) h3 H4.out
end Go.Proofs.Ytnanacokclcbfaa.Ar
