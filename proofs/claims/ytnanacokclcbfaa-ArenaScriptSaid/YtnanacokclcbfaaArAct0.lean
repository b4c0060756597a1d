/- tenurelaw08.act: a call of both arenas, by its contract. -/
import Derived.Test.YtnanacokclcbfaaArDX
import Derived.Deep.RegionHeld3
namespace Go.Proofs.Ytnanacokclcbfaa.Ar
open Go.RowKit K
set_option linter.unusedVariables false
set_option linter.unusedSimpArgs false

set_option maxRecDepth 100000 in
set_option maxHeartbeats 32000000 in
theorem act_0 (X : Nat → Prop) (w0 : World) (g all n h : Nat) (B : Bks) (nd : Int) (A : Option Addr) (c : Nat) (ws : List Int) (W : World) (hD : DA X w0 g all n h B B W) (hn : n ≤ 100) (hl : ws.length ≤ 100) (hR : ∀ wx, Keep (fun k => ¬ X k) w0 wx → Reads wx wx.heap.size 1 A ws.length (wds ws)) (hnd : (Lit.int .i64 nd).wf = true) :
    Calls Try.prog 21 #[.pointer (some ⟨g, 0, none⟩), .pointer (some ⟨h, 0, none⟩), .agg #[.int .i64 0, .int .i64 nd, .slice A ws.length c]] W fun e w' => e = .returned (.bool true) ∧ ∃ B', DA X w0 g all (n + 1) h B' B' w' := by
  obtain ⟨W1, hW1⟩ : ∃ W1, W.alloc (.cells #[.int .i64 0, .int .i64 nd, .slice A ws.length c] 46) = W1 := ⟨_, rfl⟩
  have hbb : Below W.heap.size W W1 := by rw [← hW1]; exact (Below.refl _ _).alloc (Nat.le_refl _) _
  have hg : Blk W1 W.heap.size 46 #[.int .i64 0, .int .i64 nd, .slice A ws.length c] := by rw [← hW1]; exact Blk.new _ _ _
  have HLENT := Lib.hid (lentW_any A c ws W1 (hR W1 (hD.later hbb).1) (by omega))
  have p2 : W1.cell? ⟨W.heap.size, 2, none⟩ = some (.slice A ws.length c) := by rw [hg.cell]; rfl
  have HW := Lib.hid hW1
  have HD := Lib.hid hD
  have HBB := Lib.hid hbb
  have HG := Lib.hid hg
  have HR := Lib.hid hR
  have HND := Lib.hid hnd
  have HOK := Lib.hid hD.ok
  rw [← hW1] at p2
  clear hD hR hbb hg hW1 hnd
  go_enter Try.func21, Try.ntmps21
  go_wp2_with fail
  rw [HW.out]
  refine HLENT.out.mono ?_
  rintro e w2 ⟨b, cc, rfl, ho2, hb2⟩
  have hbW : Below W.heap.size W w2 := HBB.out.trans (hb2.mono HBB.out.size)
  have hblt := ho2.lt b rfl
  have hX' : ∀ k, (k = W.heap.size ∨ k = b) → W.heap.size ≤ k ∧ k < w2.heap.size := fun k hk => by
    have h1 := HG.out.lt
    have h2 := hb2.size
    have h3 := HBB.out.size
    rcases hk with rfl | rfl <;> omega
  obtain ⟨_, _, hf, hcc1, hcc2⟩ := ownsRow_form ho2
  injection hf with hf0 _ hf
  subst hf hf0
  have HDB := Lib.hid (HD.out.base hbW hX')
  have HIN := Lib.hid (show ∀ wx, Keep (fun k => ¬ ((k = W.heap.size ∨ k = b) ∨ X k)) w2 wx → wx.ownsRow W1.heap.size 68 1 (.slice (some ⟨b, 0, none⟩) (ws.length + 3) cc) (ws.length + 3) (wds (ws ++ spW)) from fun wx hk => ownsRow_keep ho2 hk (fun r hr hf => hf (.inl (.inr (by simpa [Value.ownBlock] using hr.symm)))))
  have HINR := Lib.hid (show ∀ wx, Keep (fun k => ¬ ((k = W.heap.size ∨ k = b) ∨ X k)) w2 wx → Reads wx wx.heap.size 1 (some ⟨b, 0, none⟩) ws.length (wds ws) from fun wx hk => by
    have h1 := Reads.of_own (HIN.out wx hk)
    rw [show wds (ws ++ spW) = wds ws ++ wds spW by simp [wds]] at h1
    exact Reads.first h1 (wds_length ws))
  have HBX := Lib.hid (show ∀ wx, Keep (fun k => ¬ ((k = W.heap.size ∨ k = b) ∨ X k)) w2 wx → (wx.cell? ⟨W.heap.size, 1, none⟩ = some (.int .i64 nd) ∧ wx.cell? ⟨W.heap.size, 2, none⟩ = some (.slice A ws.length c)) from fun wx hk => by
    have h1 := (HG.out.below hb2 HG.out.lt).keep hk (fun hf => hf (.inl (.inl rfl)))
    exact ⟨by rw [h1.cell]; rfl, by rw [h1.cell]; rfl⟩)
  have HRX := Lib.hid (show ∀ wx, Keep (fun k => ¬ ((k = W.heap.size ∨ k = b) ∨ X k)) w2 wx → Reads wx wx.heap.size 1 A ws.length (wds ws) from fun wx hk => HR.out wx ((HD.out.1.trans (Keep.new (F := fun _ => False) hbW) (fun _ _ h => h.elim)).trans hk (fun k _ hk hx => hk (.inr hx))))
  have HDONE := Lib.hid (show ∀ B2 wz w7, DA (fun k => (k = W.heap.size ∨ k = b) ∨ X k) w2 g all (n + 1) h B2 B2 wz → wz.grownBy w7 (Value.slice (some ⟨b, 0, none⟩) ws.length cc).ownBlock → DA X w0 g all (n + 1) h B2 B2 w7 from fun B2 wz w7 h2 hg => HD.out.done hbW hX' h2 ((Keep.refl (fun k => k = W.heap.size ∨ k = b) wz).grown hg (fun k hk => .inl (.inr (by simpa [Value.ownBlock] using hk.symm)))))
  have p0 : w2.cell? ⟨W.heap.size, 0, none⟩ = some (.int .i64 0) := by
    have h1 := HG.out.below hb2 HG.out.lt
    rw [h1.cell]; rfl
  clear ho2 hb2 hbW hblt hX' HLENT p2
  have HA := Lib.hid (a_take HDB.out (some ⟨b, 0, none⟩) cc ws (HINR.out _ HDB.out.1) (fun h => by cases h) (fun ad e => by injection e with e; subst e; exact .inl (.inr rfl)) (by unfold maxLen; omega) (by omega))
  have HB := Lib.hid (fun wx (h' : DA (fun k => (k = W.heap.size ∨ k = b) ∨ X k) w2 g all (n + 1) h (tkB all B ws) B wx) => b_take h' HOK.out (by omega) A c ws (HRX.out wx h'.1) (by omega))
  go_wp2_with fail
  refine HA.out.mono ?_
  rintro e w3 ⟨rfl, hS⟩
  obtain ⟨z1, z2⟩ := HBX.out _ hS.1
  have HS := Lib.hid hS
  clear hS
  go_wp2_with fail
  refine (HB.out _ HS.out).mono ?_
  rintro e w4 ⟨rfl, hS4⟩
  have HT := Lib.hid hS4
  clear hS4 z1 z2 HS HA HB
  obtain ⟨B2, hB2⟩ : ∃ z, (tkB all B ws) = z := ⟨_, rfl⟩
  rw [hB2] at HT
  obtain ⟨z1, z2⟩ := HBX.out _ HT.out.1
  have HK5 := Lib.hid (keptW_any b cc A c _ _ ws _ (Reads.of_own (HIN.out _ HT.out.1)) hcc1 hcc2 (HRX.out _ HT.out.1) (by omega))
  clear hB2
  go_wp2_with fail
  refine HK5.out.mono ?_
  rintro e w6 ⟨rfl, d6, rfl⟩
  have HT6 := Lib.hid (HT.out.drewN d6)
  have HI6 := Lib.hid (own_cut (m := 3) (HIN.out _ HT6.out.1) (by omega))
  clear z1 z2
  go_wp2_with fail
  refine (overW_any _ _ _ _ _ HI6.out).mono ?_
  rintro e w7 ⟨rfl, hg7⟩
  have HE := Lib.hid (HDONE.out _ _ _ HT6.out hg7)
  clear hg7 HT HT6 HI6 HK5
  have HOK7 := Lib.hid HE.out.ok
  obtain ⟨u, hu⟩ : ∃ z, used B2 = z := ⟨_, rfl⟩
  have hu2 : u ≤ 16777216 := by have := HOK7.out.2.1; have := HOK7.out.2.2.1; omega
  have ha2 : all ≤ 16777216 := HOK7.out.2.2.1
  have HU1 := Lib.hid (fun wx (hb : Below w7.heap.size w7 wx) => a_used (HE.out.later hb))
  have HU2 := Lib.hid (fun wx (hb : Below w7.heap.size w7 wx) => b_used (HE.out.later hb) HOK7.out (by omega))
  have HL1 := Lib.hid (fun wx (hb : Below w7.heap.size w7 wx) => a_left (HE.out.later hb))
  have HP1 := Lib.hid (fun wx (hb : Below w7.heap.size w7 wx) => a_blocks (HE.out.later hb) (by omega))
  have HP2 := Lib.hid (fun wx (hb : Below w7.heap.size w7 wx) => b_blocks (HE.out.later hb) HOK7.out (by omega))
  rw [hu] at HU1 HU2 HL1
  obtain ⟨Ks, hKs⟩ : ∃ z, blks B2 = z := ⟨_, rfl⟩
  have hKl : Ks.length ≤ 1099511627776 := by rw [← hKs]; have := ksFrom_length 1 B2; have := HOK7.out.2.2.2; unfold blks; omega
  rw [hKs] at HP1 HP2
  have hw5 : IntKind.i64.wrap ((all : Int) - (u : Int)) = (all : Int) - (u : Int) := IntWalk.i64_in _ (by omega)
  have HSS := Lib.hid (show ∀ wx, Below w7.heap.size w7 wx → Below w7.heap.size w7 wx ∧ wx.cell? ⟨h, 0, none⟩ = some (.int .i64 (all : Int)) from fun wx hb => ⟨hb, (b_words (HE.out.later hb)).2⟩)
  clear hu hKs
  go_wp2_with fail
  go_region_held3 (fun wx' => Below w7.heap.size w7 wx' ∧ wx'.cell? ⟨h, 0, none⟩ = some (.int .i64 (all : Int))) (first
    | exact HSS.out _ (btodrew (Below.refl _ _))
    | exact HSS.out _ hbz
    | assumption) (first
    | (go_at_call 23
       have hby := And.left (by assumption)
       refine (HU1.out _ hby).mono ?_
       rintro e wz ⟨rfl, rfl⟩
       have hbz := hby)
    | (go_at_call 39
       have hby := And.left (by assumption)
       refine (HU2.out _ hby).mono ?_
       rintro e wz ⟨rfl, rfl⟩
       have hbz := hby)
    | (go_at_call 22
       have hby := And.left (by assumption)
       refine (HL1.out _ hby).mono ?_
       rintro e wz ⟨rfl, dz, hdz⟩
       have hbz : Below w7.heap.size w7 wz := by rw [hdz]; exact bdrewN hby dz
       clear hdz)
    | (go_at_call 17
       have hby := And.left (by assumption)
       refine (HP1.out _ hby).mono ?_
       rintro e wz ⟨v, rfl, ho, hb0⟩
       obtain ⟨Aa, ca, rfl, _, _⟩ := ownsRow_form ho
       have HRA := Lib.hid (Reads.of_own ho)
       have hbz := bnext hby hb0
       clear ho hb0)
    | (go_at_call 40
       have hby := And.left (by assumption)
       refine (HP2.out _ hby).mono ?_
       rintro e wz ⟨v, rfl, ho, hb0⟩
       obtain ⟨Ab, cb, rfl, _, _⟩ := ownsRow_form ho
       have HRA2 := Lib.hid (HRA.out.below hb0)
       have HRB := Lib.hid (Reads.of_own ho)
       have hbz := bnext hby hb0
       clear ho hb0)
    | (go_at_call 16
       have hby := And.left (by assumption)
       refine (sameInts_yes _ _ _ _ _ _ Ks _ HRA2.out HRB.out hKl).mono ?_
       rintro e wz ⟨rfl, dz, hdz⟩
       have hbz : Below w7.heap.size w7 wz := by rw [hdz]; exact bdrewN hby dz
       clear hdz)
    | fail)
  have hb := And.left (by assumption)
  go_wp2_with fail
  go_ret
  exact ⟨ret1_b (by simp), B2, HE.out.later hb⟩
end Go.Proofs.Ytnanacokclcbfaa.Ar
