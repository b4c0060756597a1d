/- The document's Flatten, by a contract. -/
import Derived.Test.YtfcialleekfjmaaFlRLay
import Derived.Test.YtfcialleekfjmaaRefTm
import Derived.Test.YtfcialleekfjmaaFlPart
namespace Go.Proofs.Ytfcialleekfjmaa.Fl
open Go.RowKit K At Wd
set_option linter.unusedVariables false
set_option linter.unusedSimpArgs false

theorem rlay_any : ∀ t : Tm, RLayC t := by
  refine Tm.ind fun t ih v w M R G gx h L O hF hT hR hs hat hO => ?_
  obtain ⟨A, c, rfl, ok, hts⟩ := hT.inv
  have hsb : soundB t = true := by rw [sndL_subs, Bool.and_eq_true] at hs; exact hs.1
  have hsl : ∀ u ∈ t.l, sndL (subs u) = true := fun u hu => by rw [sndL_subs, Bool.and_eq_true] at hs; exact sndL_mem hs.2 hu
  have hw : (Lit.int .i64 t.k).wf = true ∧ (Lit.int .i64 t.n).wf = true := ⟨ok.wk, ok.wn⟩
  have hws : t.s.size ≤ maxLen := ok.ws
  obtain ⟨k, n, s, l⟩ := t
  simp only [Tm.l_mk, Tm.k_mk, Tm.n_mk, Tm.s_mk] at ih hsl hts hw hws
  unfold tv
  simp only [Tm.l_mk, Tm.k_mk, Tm.n_mk, Tm.s_mk]
  by_cases h2 : k = 2
  · subst h2
    obtain ⟨rfl, h64, hl⟩ := (soundB_2 n s l).1 hsb
    obtain rfl : l = [] := List.eq_nil_of_length_eq_zero hl
    exact rlay_atom s hws A c w M R G gx h L O hF hts hR hsb hat hO
  by_cases h7 : k = 7
  · subst h7
    obtain ⟨rfl, h0, hl⟩ := (soundB_7 n s l).1 hsb
    obtain rfl := bytes_nil h0
    exact rlay_7 l ih hsl A c w M R G gx h L O hF hts hR hsb hat hO
  by_cases h5 : k = 5
  · subst h5
    obtain ⟨_, _, h0, hl⟩ := (soundB_5 n s l).1 hsb
    obtain rfl := bytes_nil h0
    exact rlay_5 n l ih hsl A c w M R G gx h L O hF hts hR hsb hat hO
  by_cases h9 : k = 9
  · subst h9
    obtain ⟨rfl, h0, hl⟩ := (soundB_9 n s l).1 hsb
    obtain rfl := bytes_nil h0
    exact rlay_9 l ih hsl A c w M R G gx h L O hF hts hR hsb hat hO
  · have hbk : ¬ boxK k := by unfold boxK; omega
    obtain rfl : l = [] := (sound_leaf hsb h2 hbk).1
    exact rlay_leaf k n s hw.1 hw.2 h2 hbk A c w M R G gx h L O hF hts hR hsb hat hO
/-- What the document's Flatten leaves. -/
def RFlatPost (w : World) (G : Nat → Prop) (h : Nat) (L : List ByteArray) (t : Tm) (e : Ending) (w' : World) : Prop :=
  ∃ G' A c, e = .returned (.tuple #[.slice A (flW L t).length c, .int .i64 (flE L t)]) ∧ RTab w' G' h (flL L t) ∧ (∀ k, G' k → G k ∨ w.heap.size ≤ k) ∧ Keep G w w' ∧ RO w' G' A (flW L t).length (u64s (flW L t))
theorem RMoved.rtab {w w' : World} {G : Nat → Prop} {h : Nat} {L : List ByteArray} (m : RMoved w G h L w') : ∃ G', RTab w' G' h L ∧ (∀ k, G' k → G k ∨ w.heap.size ≤ k) ∧ Keep G w w' := m
set_option maxRecDepth 100000 in
set_option maxHeartbeats 8000000 in
theorem rflat_any (h : Nat) (L : List ByteArray) (t : Tm) (v : Value) (w : World) (G R : Nat → Prop) (hT : RTab w G h L) (ht : TAt w R t v) (hR : ∀ b, R b → b < w.heap.size ∧ ¬ G b) (hn : nodes t ≤ 1048576) :
    Calls Try.prog 23 #[.pointer (some ⟨h, 0, none⟩), v] w (RFlatPost w G h L t) := by
  obtain ⟨A, c, rfl, ok, hts⟩ := ht.inv
  have hlt := RTab.lt_ hT
  obtain ⟨w0, hw0⟩ : ∃ x, w.alloc (.cells #[.int .i64 t.k, .int .i64 t.n, .string t.s, .slice A t.l.length c] 24) = x := ⟨_, rfl⟩
  have hb0 : Below w.heap.size w w0 := by rw [← hw0]; exact ballocs (Below.refl _ _) _
  have hBT : Blk w0 w.heap.size 24 #[.int .i64 t.k, .int .i64 t.n, .string t.s, .slice A t.l.length c] := by rw [← hw0]; exact Blk.new _ _ _
  have HCK := Lib.hid (rcheck_any t (tv t A c) w0 ((ht.under hb0 (fun b hb => (hR b hb).1)).mono (fun b hb => by have := (hR b hb).1; have := hb0.size; omega)) hn)
  have HT := Lib.hid hT; have HTT := Lib.hid ht; have HR := Lib.hid hR; have HB0 := Lib.hid hb0; have HBT := Lib.hid hBT; have HLT := Lib.hid hlt; have HW0 := Lib.hid hw0
  obtain ⟨p0, p1, p2, p3, _, _, _, _⟩ := hBT.four
  unfold tv at HCK HTT ⊢
  clear hT ht hts hlt hb0 hR ok hn hBT hw0
  go_enter Try.func23, Try.ntmps23
  go_wp2_with fail
  rw [HW0.out]
  refine HCK.out.mono ?_
  rintro e w1 ⟨rfl, hb1⟩
  have HB1 := Lib.hid (fbelow HB0.out hb1); have HBT1 := Lib.hid (HBT.out.below hb1 HBT.out.lt)
  clear hb1
  by_cases hc0 : chk t = 0
  · have HC := Lib.hid hc0
    have HSW := Lib.hid (chk_snd hc0)
    rw [hc0]
    obtain ⟨w2, hmk, hR2, hb2, hz2⟩ := flat_make w1 1 (by decide) (by decide)
    have hmk2 : (Instr.makeSlice 25 (.int .i64 1) (.int .i64 1)).run Try.prog w1 = .ok (.slice (some ⟨w1.heap.size, 0, none⟩) 1 1) w2 := hmk
    have HB2 := Lib.hid (fbelow HB1.out hb2)
    have hbx := Blk.new w2 89 #[.pointer (some ⟨h, 0, none⟩), .slice (some ⟨w1.heap.size, 0, none⟩) 1 1]
    have hb3 := ballocs (Below.refl w2.heap.size w2) (.cells #[.pointer (some ⟨h, 0, none⟩), .slice (some ⟨w1.heap.size, 0, none⟩) 1 1] 89)
    obtain ⟨w3, hw3⟩ : ∃ x, w2.alloc (.cells #[.pointer (some ⟨h, 0, none⟩), .slice (some ⟨w1.heap.size, 0, none⟩) 1 1] 89) = x := ⟨_, rfl⟩
    rw [hw3] at hbx hb3
    obtain ⟨gx, hgx⟩ : ∃ gx, w2.heap.size = gx := ⟨_, rfl⟩
    have HGX := Lib.hid hgx
    obtain ⟨rb, hrb⟩ : ∃ rb, w1.heap.size = rb := ⟨_, rfl⟩
    have hbl1 := HBT1.out.lt
    have hrb1 : w.heap.size < rb := by omega
    have hgx1 : gx = rb + 1 := by omega
    rw [hgx] at hbx
    rw [hrb] at hbx hR2 hmk2 hw3
    have HW3 := Lib.hid hw3
    have hBT3 := ((HBT1.out.below hb2 HBT1.out.lt).below hb3 (by have := hb2.size; omega))
    have HB3 := Lib.hid (fbelow HB2.out hb3)
    have HT3 := Lib.hid (HT.out.keep (G := fun _ => False) (Keep.new HB3.out) (fun _ _ h => h) : RTab w3 G h L)
    have HR3 := Lib.hid (ownsRow_below hR2 hb3 (fun r hr => (hR2.lt r hr).2))
    have HX3 := Lib.hid hbx
    have hz3 : gx < w3.heap.size := hbx.lt
    have HTT3 := Lib.hid (HTT.out.under HB3.out (fun b hb => (HR.out b hb).1))
    have hBT2 := HBT1.out.below hb2 HBT1.out.lt
    obtain ⟨q0, q1, q2, q3, _, _, _, _⟩ := hBT2.four
    have hlz2 : w.heap.size < w2.heap.size := hBT2.lt
    have HBT3 := Lib.hid hBT3
    have x0 : w3.cell? ⟨gx, 0, none⟩ = some (.pointer (some ⟨h, 0, none⟩)) := by rw [hbx.cell]; rfl
    have HNU := Lib.hid (numbers_any t _ w3 G R gx h _ L HT3.out HX3.out (fun hg => by have := HLT.out _ hg; omega) HTT3.out (fun b hb => ⟨by have := (HR.out b hb).1; omega, (HR.out b hb).2⟩))
    have HGX1 := Lib.hid hgx1
    clear hc0 hmk hR2 hb2 hz2 hbx hb3 hw3 hgx hBT3 hBT2 hgx1 p0 p1 p2 p3
    have HRB := Lib.hid hrb
    clear hrb
    go_wp2_with fail
    rw [HW3.out, HGX.out]
    refine HNU.out.mono ?_
    rintro e w4 ⟨rfl, hm4⟩
    obtain ⟨G4, hT4, hs4, hk4⟩ := RMoved.rtab hm4
    have hnG : ∀ b, b < w3.heap.size → ¬ G b → ¬ G4 b := fun b h1 h2 h3 => by rcases hs4 b h3 with h | h; exact h2 h; omega
    have hGw : ∀ b, w.heap.size ≤ b → ¬ G b := fun b hb hg => by have := HLT.out b hg; omega
    have HKW := Lib.hid ((Keep.new (F := G) HB3.out).trans hk4 (fun _ _ h => h))
    have HS4 := Lib.hid (show ∀ k, G4 k → G k ∨ w.heap.size ≤ k from fun k hk => (hs4 k hk).imp id (fun h => Nat.le_trans HB3.out.size h))
    cases hnm : (nums t L).1 with
    | false =>
      have hE : flE L t = 8 := by unfold flE; rw [if_pos HC.out, if_neg (by rw [hnm]; simp)]
      have HP := Lib.hid (show RFlatPost w G h L t (.returned (.tuple #[.slice none 0 0, .int .i64 8])) w4 from by
        have hW : flW L t = [] := by unfold flW; rw [if_neg (by rw [hE]; decide)]
        have hL : flL L t = (nums t L).2 := by unfold flL; rw [if_pos HC.out]
        refine ⟨G4, none, 0, by rw [hE, hW]; rfl, by rw [hL]; exact hT4, HS4.out, HKW.out, ?_⟩
        rw [hW]
        exact ⟨rfl, fun h => absurd h (by simp)⟩)
      clear hm4 hT4 hs4 hk4 hnG hGw hnm hE
      go_wp2_with fail
      go_ret2
      exact HP.out
    | true =>
      have hgx1 := HGX1.out
      have hbx4 := HX3.out.keep hk4 (hGw gx (by omega))
      have hR4 := ownsRow_keep HR3.out hk4 (fun r hr hg => by
        have hr : rb = r := by injection hr
        exact hGw r (by omega) hg)
      have hRS : Rs w4 (fun k => k = gx ∨ k = rb) gx h G4 (nums t L).2 [0] := ⟨_, hT4, hbx4, hR4, .inl rfl, fun r hr => by injection hr with hr; exact .inr hr.symm, fun k hk => by
        have := hk4.size
        have := HGX1.out
        rcases hk with rfl | rfl
        · exact ⟨by omega, hnG _ (by omega) (hGw _ (by omega))⟩
        · exact ⟨by omega, hnG _ (by omega) (hGw _ (by omega))⟩⟩
      have hBT4 := HBT3.out.keep hk4 (hGw _ (Nat.le_refl _))
      have HLY := Lib.hid (rlay_any t _ w4 (fun k => k = gx ∨ k = rb) R G4 gx h (nums t L).2 [0] hRS (HTT3.out.keepF hk4 (fun b hb => by have := (HR.out b hb).1; omega) (fun b hb => (HR.out b hb).2)) (fun b hb => ⟨by have := (HR.out b hb).1; have := hk4.size; omega, fun h => by
        have h1 := (HR.out b hb).1
        have := HGX1.out
        rcases h with h | h <;> omega⟩) HSW.out.1 (nums_in t L hnm) (by have := HSW.out.2; simp; omega))
      have x04 : w4.cell? ⟨gx, 0, none⟩ = some (.pointer (some ⟨h, 0, none⟩)) := by rw [hbx4.cell]; rfl
      obtain ⟨s0, s1, s2, s3, _, _, _, _⟩ := hBT4.four
      have HNM := Lib.hid hnm
      have HNW := Lib.hid (show ∀ k, (k = gx ∨ k = rb) → w.heap.size ≤ k from fun k hk => by have := HGX1.out; rcases hk with h | h <;> omega)
      clear hm4 hT4 hs4 hk4 hnG hGw hnm hbx4 hR4 hRS hBT4 x0 q0 q1 q2 q3 hgx1
      unfold tv at HLY
      go_wp2_with fail
      refine HLY.out.mono ?_
      rintro e w5 ⟨rfl, hm5⟩
      obtain ⟨M5, hF5, hs5, hk5⟩ := hm5
      obtain ⟨q, cr, hcr, hcr1, hcr2, ⟨x9, hx9⟩, hfz9, hst⟩ := hF5.store (i := 0) (by simp)
      have hqg : q ≠ gx := by
        obtain ⟨v, _, hB, hR, _, _, _⟩ := hF5
        have h1 := hB.cell 1
        rw [hcr] at h1
        have hv : v = .slice (some ⟨q, 0, none⟩) ([0] ++ lay (ix (nums t L).2) t [(0 : Int)].length).length cr := by simpa using h1.symm
        subst hv
        exact fun e => own_blk_ne hR hB (by decide) (by rw [e]; rfl)
      obtain ⟨N, hN⟩ : ∃ N, ([0] ++ lay (ix (nums t L).2) t [(0 : Int)].length).length = N := ⟨_, rfl⟩
      have hN0 : 0 < N := by rw [← hN]; simp
      obtain ⟨_, _, hx05, _, _, _, _, _⟩ := hF5.cells
      have HP := Lib.hid (show RFlatPost w G h L t (.returned (.tuple #[.slice (some ⟨q, 0, none⟩) N cr, .int .i64 0])) (w5.setCell ⟨q, 0, none⟩ (.int .u64 (ownW (ix (nums t L).2) t [(0 : Int)].length))) from by
        have hE : flE L t = 0 := by unfold flE; rw [if_pos HC.out, if_pos HNM.out]
        have hW : flW L t = Fl.flat (ix (nums t L).2) t := by unfold flW; rw [if_pos hE]
        have hL : flL L t = (nums t L).2 := by unfold flL; rw [if_pos HC.out]
        have hNW : (flW L t).length = N := by rw [← hN, hW]; rfl
        obtain ⟨M6, hF6, hs6, hk6⟩ := hst (ownW (ix (nums t L).2) t [(0 : Int)].length)
        have hk46 : Keep G w (w5.setCell ⟨q, 0, none⟩ (.int .u64 (ownW (ix (nums t L).2) t [(0 : Int)].length))) := HKW.out.trans (hk5.trans hk6 (fun i hi hm => by
          rcases hs5 i hm with h | h
          · exact h
          · omega)) (fun i hi hm => by have := HNW.out i hm; omega)
        have hrow := hF6.row (v := .slice (some ⟨q, 0, none⟩) N cr) (n := N) ((far_cell w5 ⟨q, 0, none⟩ ⟨gx, 1, none⟩ _ hqg).trans (hN ▸ hcr)) (by rw [List.length_set]; exact hN)
        obtain ⟨v, hT6, _, _, _, hM6, hG6⟩ := hF6
        refine ⟨G4, some ⟨q, 0, none⟩, cr, by rw [hE, hNW], by rw [hL]; exact hT6, HS4.out, hk46, ?_⟩
        rw [hNW, hW]
        refine RO.of_own (e := 49) (base := 0) (c := cr) hrow (fun r hr hg => ?_)
        have hr : q = r := by injection hr
        subst hr
        have hB := ‹Blk _ gx _ _›
        have h1 := hB.cell 1
        rw [(far_cell w5 ⟨q, 0, none⟩ ⟨gx, 1, none⟩ _ hqg).trans hcr] at h1
        have hv : v = .slice (some ⟨q, 0, none⟩) ([0] ++ lay (ix (nums t L).2) t [(0 : Int)].length).length cr := by simpa using h1.symm
        exact (hG6 q (hM6 q (by rw [hv]; rfl))).2 hg)
      rw [hN] at hcr hcr1
      clear hF5 hst hN hs5 hk5 s0 s1 s2 s3 x04
      go_wp2_with fail
      go_ret2
      exact HP.out
  · have HP := Lib.hid (show RFlatPost w G h L t (.returned (.tuple #[.slice none 0 0, .int .i64 (chk t)])) w1 from by
      have hE : flE L t = chk t := by unfold flE; rw [if_neg hc0]
      have hW : flW L t = [] := by unfold flW; rw [if_neg (by rw [hE]; exact hc0)]
      have hL : flL L t = L := by unfold flL; rw [if_neg hc0]
      refine ⟨G, none, 0, by rw [hE, hW]; rfl, by rw [hL]; exact HT.out.keep (G := fun _ => False) (Keep.new HB1.out) (fun _ _ h => h), fun k hk => .inl hk, Keep.new HB1.out, ?_⟩
      rw [hW]
      exact ⟨rfl, fun h => absurd h (by simp)⟩)
    have b1 : (chk t != 0) = true := by simpa using hc0
    clear hc0
    go_wp2_with fail
    go_ret2
    exact HP.out
end Go.Proofs.Ytfcialleekfjmaa.Fl
