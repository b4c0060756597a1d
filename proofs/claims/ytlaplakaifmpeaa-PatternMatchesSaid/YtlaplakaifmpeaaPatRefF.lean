/- tenureref16.find, May, by contracts. -/
import Derived.Test.YtlaplakaifmpeaaPatRefC
import Derived.Test.YtlaplakaifmpeaaPatFills
namespace Go.Proofs.Ytlaplakaifmpeaa.Pt
open Go.RowKit K Go.Shelf
set_option linter.unusedVariables false
set_option linter.unusedSimpArgs false

/-- A term told, that stands in memory, or none. -/
def RfPost (w : World) (o : Option Tm) (e : Ending) (w' : World) : Prop :=
  Below w.heap.size w w' ∧ ((o = none ∧ e = .returned (.tuple #[.agg #[.int .i64 0, .int .i64 0, .string ⟨#[]⟩, .slice none 0 0], .bool false])) ∨
    ∃ (t : Tm) (A : Option Addr) (c : Nat), o = some t ∧ e = .returned (.tuple #[tv t A c, .bool true]) ∧ TA w' t (tv t A c))
/-- The same, of memory below N, or new. -/
def RfPostN (w : World) (N : Nat) (o : Option Tm) (e : Ending) (w' : World) : Prop :=
  Below w.heap.size w w' ∧ ((o = none ∧ e = .returned (.tuple #[.agg #[.int .i64 0, .int .i64 0, .string ⟨#[]⟩, .slice none 0 0], .bool false])) ∨
    ∃ (t : Tm) (A : Option Addr) (c : Nat), o = some t ∧ e = .returned (.tuple #[tv t A c, .bool true]) ∧ TAt w' (fun b => b < N ∨ Fr w w' b) t (tv t A c))
theorem Below.drewN {B n : Nat} {w w' : World} (h : Below B w w') : Below B w (w'.drewN n) := ⟨h.os, h.tape, h.output, h.size, h.block⟩
theorem findB_here {l : List Bnd} {n : Int} {a : Nat} {p : Bnd} (h : ∀ i x, i < a → l[i]? = some x → x.1 ≠ n) (hp : l[a]? = some p) (hn : p.1 = n) : findB l n = some p.2 := by
  unfold findB
  have h1 := (List.getElem?_eq_some_iff.1 hp)
  rw [← List.take_append_drop a l, List.find?_append, List.find?_eq_none.2 (fun x hx => by
    obtain ⟨i, hi⟩ := List.mem_iff_getElem?.1 hx
    have hlt : i < a := by
      have := (List.getElem?_eq_some_iff.1 hi).1
      rw [List.length_take] at this; omega
    rw [List.getElem?_take, if_pos hlt] at hi
    simpa using h i x hlt hi), Option.none_or, List.drop_eq_getElem_cons h1.1, h1.2, List.find?_cons_of_pos (by simpa using hn)]
  rfl
theorem findB_none {l : List Bnd} {n : Int} (h : ∀ i x, i < l.length → l[i]? = some x → x.1 ≠ n) : findB l n = none := by
  unfold findB
  rw [List.find?_eq_none.2 (fun x hx => by
    obtain ⟨i, hi⟩ := List.mem_iff_getElem?.1 hx
    simpa using h i x (List.getElem?_eq_some_iff.1 hi).1 hi)]
  rfl
set_option maxRecDepth 100000 in
set_option maxHeartbeats 8000000 in
theorem findN_any (N : Nat) (l : List Bnd) (n : Int) (A : Option Addr) (c : Nat) (w : World) (h : BsAt w (· < N) A l) (hN : N ≤ w.heap.size) (hl : l.length ≤ 65536) :
    Calls Try.prog 54 #[.slice A l.length c, .int .i64 n] w (RfPostN w N (findB l n)) := by
  obtain ⟨W1, hW1⟩ : ∃ W1, w.alloc (.cells #[.int .i64 0, .int .i64 0, .string ⟨#[]⟩, .slice none 0 0] 24) = W1 := ⟨_, rfl⟩
  have hb1 : Below w.heap.size w W1 := by rw [← hW1]; exact ballocs (Below.refl _ _) _
  have hg : Blk W1 w.heap.size 24 #[.int .i64 0, .int .i64 0, .string ⟨#[]⟩, .slice none 0 0] := by rw [← hW1]; exact Blk.new _ _ _
  have HI := Lib.hid (show BsAt W1 (· < N) A l from h.keep fun p hp => hb1.cell (Nat.lt_of_lt_of_le hp hN))
  have HG := Lib.hid hg; have HB1 := Lib.hid hb1; have HW1 := Lib.hid hW1
  obtain ⟨q0, q1, q2, q3, t0, t1, t2, t3⟩ := hg.four
  clear h hb1 hg hW1
  go_enter Try.func54, Try.ntmps54
  go_wp2_with fail
  rw [HW1.out]
  go_loopw [6] (fun x wr => ∃ a : Nat, a ≤ l.length ∧ x = .int .i64 (a : Int) ∧ (∀ i y, i < a → l[i]? = some y → y.1 ≠ n) ∧ W1 = wr) (fun x _ => l.length - (intOf x).toNat)
  case atStart => exact ⟨0, Nat.zero_le _, rfl, fun i y hi => by omega, rfl⟩
  case round =>
    obtain ⟨a, ha, rfl, hlow, rfl⟩ := hrel
    have HLOW := Lib.hid hlow
    clear hlow
    by_cases hlt : a < l.length
    · obtain ⟨y, hy⟩ : ∃ y, l[a]? = some y := ⟨_, List.getElem?_eq_getElem hlt⟩
      obtain ⟨b, o, A', c', rfl, hbl, d0, d1, d2, d3, d4, hta⟩ := HI.out.at_ hy
      obtain ⟨yn, hyn⟩ : ∃ z, y.1 = z := ⟨_, rfl⟩
      rw [hyn] at d0
      have HY := Lib.hid hy
      have HYN := Lib.hid hyn
      have HTA := Lib.hid hta
      have ha0 : (0 : Int) ≤ (a : Int) := by omega
      have hal : (a : Int) < (l.length : Int) := by omega
      clear hta hy hyn
      by_cases h1 : yn = n
      · subst h1
        have HE := Lib.hid (findB_here HLOW.out HY.out HYN.out)
        obtain ⟨t, ht⟩ : ∃ t, y.2 = t := ⟨_, rfl⟩
        rw [ht] at HE HTA d1 d2 d3 d4
        clear ht
        go_wp2_with fail
        obtain ⟨r0, r1, r2, r3, _, _, _, _⟩ := (put4_blk HG.out (.int .i64 t.k) (.int .i64 t.n) (.string t.s) (.slice A' t.l.length c')).four
        rw [HE.out]
        refine bodyPost_ret (v := .tuple #[tv t A' c', .bool true]) (by unfold put4 at r0 r1 r2 r3; unfold tv; simp [results, Try.results54, go_sem, r0, r1, r2, r3]) rfl ?_
        have hk := put4_keep (Keep.refl (fun x => x = w.heap.size) W1) (g := w.heap.size) (.inl rfl) (.int .i64 t.k) (.int .i64 t.n) (.string t.s) (.slice A' t.l.length c')
        exact ⟨put4_below HB1.out (Nat.le_refl _) _ _ _ _, .inr ⟨t, A', c', rfl, rfl, (HTA.out.keepF hk (fun b hb => Nat.lt_of_lt_of_le (Nat.lt_of_lt_of_le hb hN) HB1.out.size) (fun b hb e => by have h9 : b < N := hb; omega)).mono (fun b hb => .inl hb)⟩⟩
      · have HL := Lib.hid (show ∀ i x, i < a + 1 → l[i]? = some x → x.1 ≠ n from fun i x hi hx => by
          by_cases e : i = a
          · subst e; rw [HY.out] at hx; injection hx with hx; rw [← hx, HYN.out]; exact h1
          · exact HLOW.out i x (by omega) hx)
        have h1f : (yn == n) = false := by simpa using h1
        go_wp2_with fail
        go_roundw
        case rel => exact ⟨a + 1, by omega, by go_num, HL.out, by first | rfl | trivial⟩
        case measure => simp [intOf]; omega
    · obtain rfl : a = l.length := by omega
      have HE := Lib.hid (findB_none HLOW.out)
      go_wp2_with fail
      obtain ⟨r0, r1, r2, r3, _, _, _, _⟩ := (put4_blk HG.out (.int .i64 0) (.int .i64 0) (.string ⟨#[]⟩) (.slice none 0 0)).four
      rw [HE.out]
      exact bodyPost_ret (v := .tuple #[.agg #[.int .i64 0, .int .i64 0, .string ⟨#[]⟩, .slice none 0 0], .bool false]) (by unfold put4 at r0 r1 r2 r3; simp [results, Try.results54, go_sem, r0, r1, r2, r3]) rfl ⟨put4_below HB1.out (Nat.le_refl _) _ _ _ _, .inl ⟨rfl, rfl⟩⟩
theorem RfPostN.plain {w w' : World} {N : Nat} {o : Option Tm} {e : Ending} (h : RfPostN w N o e w') (hN : N ≤ w.heap.size) : RfPost w o e w' := by
  obtain ⟨hb, h⟩ := h
  refine ⟨hb, h.imp id ?_⟩
  rintro ⟨t, A, c, h1, h2, h3⟩
  exact ⟨t, A, c, h1, h2, h3.mono fun b hb' => by
    have := hb.size
    rcases hb' with hb' | hb'
    · omega
    · exact hb'.2⟩
theorem find_any (l : List Bnd) (n : Int) (A : Option Addr) (c : Nat) (w : World) (h : BsAt w (· < w.heap.size) A l) (hl : l.length ≤ 65536) :
    Calls Try.prog 54 #[.slice A l.length c, .int .i64 n] w (RfPost w (findB l n)) :=
  (findN_any w.heap.size l n A c w h (Nat.le_refl _) hl).mono fun e w' h => h.plain (Nat.le_refl _)
set_option maxRecDepth 100000 in
set_option maxHeartbeats 8000000 in
theorem rmay_any (l : List Bnd) (A : Option Addr) (c : Nat) (w : World) (h : BsAt w (· < w.heap.size) A l) (hl : l.length ≤ 65536) (hn : ∀ q ∈ l, nodes q.2 ≤ 1048576) :
    Calls Try.prog 45 #[.slice A l.length c] w fun e w' => e = .returned (.bool (okFrom (-1) l)) ∧ Below w.heap.size w w' := by
  have HI := Lib.hid h
  have HN := Lib.hid hn
  clear h hn
  go_enter Try.func45, Try.ntmps45
  go_wp2_with fail
  go_loopw [3] (fun x wr => ∃ (a : Nat) (last : Int), a ≤ l.length ∧ x = .int .i64 (a : Int) ∧ okFrom (-1) l = okFrom last (l.drop a) ∧ (a = 0 → last = -1) ∧ (0 < a → ∃ q, l[a - 1]? = some q ∧ q.1 = last) ∧ -1 ≤ last ∧ last ≤ 99 ∧ Below w.heap.size w wr) (fun x _ => l.length - (intOf x).toNat)
  case atStart => exact ⟨0, -1, Nat.zero_le _, rfl, rfl, fun _ => rfl, fun h => by omega, by omega, by omega, Below.refl _ _⟩
  case round =>
    obtain ⟨a, last, ha, rfl, hok, hla, hlq, hl1, hl2, hb⟩ := hrel
    have HB := Lib.hid hb; have HOK := Lib.hid hok; have HLA := Lib.hid hla; have HLQ := Lib.hid hlq
    have hsz := hb.size
    clear hb hok hla hlq
    by_cases hlt : a < l.length
    · obtain ⟨p, hp⟩ : ∃ p, l[a]? = some p := ⟨_, List.getElem?_eq_getElem hlt⟩
      obtain ⟨b, o, A', c', rfl, hbl, d0, d1, d2, d3, d4, hta⟩ := (HI.out.later HB.out).at_ hp
      have hdrop : l.drop a = p :: l.drop (a + 1) := by
        obtain ⟨h1, h2⟩ := List.getElem?_eq_some_iff.1 hp
        rw [List.drop_eq_getElem_cons h1, h2]
      have HST := Lib.hid (show okFrom (-1) l = ((decide (last < p.1) && (decide (p.1 ≤ 99) && mayT p.2)) && okFrom p.1 (l.drop (a + 1))) from by rw [HOK.out, hdrop]; rfl)
      have HCK := Lib.hid (fun wx (hx : Below wr.heap.size wr wx) => rcheck_any p.2 _ wx (TA.later hta hx) (HN.out p (List.mem_of_getElem? hp)))
      have ha0 : (0 : Int) ≤ (a : Int) := by omega
      have hal : (a : Int) < (l.length : Int) := by omega
      have HP := Lib.hid hp
      obtain ⟨t, ht⟩ : ∃ t, p.2 = t := ⟨_, rfl⟩
      obtain ⟨pn, hpn⟩ : ∃ x, p.1 = x := ⟨_, rfl⟩
      rw [ht] at d1 d2 d3 d4 HST HCK
      rw [hpn] at d0 HST
      obtain ⟨z, hz⟩ : ∃ z, chk t = z := ⟨_, rfl⟩
      have HM := Lib.hid (show mayT t = decide (z = 0) from by unfold mayT; rw [hz])
      rw [hz] at HCK
      have HPN := Lib.hid hpn
      clear hta hp hdrop ht hpn hz
      by_cases h1 : pn < 0
      · have HE := Lib.hid (show okFrom (-1) l = false from by rw [HST.out, decide_eq_false (show ¬ last < pn by omega)]; rfl)
        have hd : decide (pn < 0) = true := decide_eq_true h1
        go_wp2_with fail
        go_quiet (fail)
        go_wp2_with fail
        go_ret
        exact ⟨ret1_b (by rw [HE.out]), Below.drewN HB.out⟩
      have hd1 : decide (pn < 0) = false := decide_eq_false h1
      by_cases h2 : 99 < pn
      · have HE := Lib.hid (show okFrom (-1) l = false from by rw [HST.out, decide_eq_false (show ¬ pn ≤ 99 by omega)]; simp)
        have hd : decide (99 < pn) = true := decide_eq_true h2
        go_wp2_with fail
        go_quiet (fail)
        go_wp2_with fail
        go_ret
        exact ⟨ret1_b (by rw [HE.out]), Below.drewN HB.out⟩
      have hd2 : decide (99 < pn) = false := decide_eq_false h2
      by_cases h0 : a = 0
      · subst h0
        obtain rfl := HLA.out rfl
        simp only [Nat.zero_mul, Nat.add_zero] at d0 d1 d2 d3 d4
        go_wp2_with fail
        have hbl9 := hbl
        have HS := Lib.hid (show ∀ wx, Below wr.heap.size wr wx → (Below wr.heap.size wr wx ∧ wx.cell? ⟨b, o, none⟩ = some (.int .i64 pn) ∧ wx.cell? ⟨b, o + 1, none⟩ = some (.int .i64 t.k) ∧ wx.cell? ⟨b, o + 2, none⟩ = some (.int .i64 t.n) ∧ wx.cell? ⟨b, o + 3, none⟩ = some (.string t.s) ∧ wx.cell? ⟨b, o + 4, none⟩ = some (.slice A' t.l.length c')) from fun wx hx => ⟨hx, (hx.cell (p := ⟨b, _, none⟩) hbl9).trans d0, (hx.cell (p := ⟨b, _, none⟩) hbl9).trans d1, (hx.cell (p := ⟨b, _, none⟩) hbl9).trans d2, (hx.cell (p := ⟨b, _, none⟩) hbl9).trans d3, (hx.cell (p := ⟨b, _, none⟩) hbl9).trans d4⟩)
        refine wp_region_held_drew (S := fun wx => Below wr.heap.size wr wx ∧ wx.cell? ⟨b, o, none⟩ = some (.int .i64 pn) ∧ wx.cell? ⟨b, o + 1, none⟩ = some (.int .i64 t.k) ∧ wx.cell? ⟨b, o + 2, none⟩ = some (.int .i64 t.n) ∧ wx.cell? ⟨b, o + 3, none⟩ = some (.string t.s) ∧ wx.cell? ⟨b, o + 4, none⟩ = some (.slice A' t.l.length c')) (by kernel_rfl) (HS.out _ (btodrew (Below.refl _ _))) (fun hHeld => ?_)
        refine wpAnyH_take (i := 0) (oi := ⟨some 10, _, _, _, _, _⟩) (v := ?_) rfl (by kernel_rfl) (by kernel_rfl) (by kernel_rfl) (fun _ _ _ h => h) (Or.inl ⟨by rfl, ?_⟩) (by assumption) ?_
        rotate_left
        · intro wS hSw; (try dsimp only at hSw); go_simp; try with_reducible rfl
        try simp only [Act.put, List.setIfInBounds_toArray, List.set_cons_zero, List.set_cons_succ]
        refine wpAnyH_take (i := 1) (oi := ⟨some 11, _, _, _, _, _⟩) (v := ?_) rfl (by kernel_rfl) (by kernel_rfl) (by kernel_rfl) (fun _ _ _ h => h) (Or.inl ⟨by rfl, ?_⟩) (by assumption) ?_
        rotate_left
        · intro wS hSw; (try dsimp only at hSw); go_simp; try with_reducible rfl
        try simp only [Act.put, List.setIfInBounds_toArray, List.set_cons_zero, List.set_cons_succ]
        refine wpAnyH_take (i := 2) (oi := ⟨some 12, _, _, _, _, _⟩) (v := ?_) rfl (by kernel_rfl) (by kernel_rfl) (by kernel_rfl) (fun _ _ _ h => h) (Or.inl ⟨by rfl, ?_⟩) (by assumption) ?_
        rotate_left
        · intro wS hSw; (try dsimp only at hSw); go_simp; try with_reducible rfl
        try simp only [Act.put, List.setIfInBounds_toArray, List.set_cons_zero, List.set_cons_succ]
        refine wpAnyH_take (i := 3) (oi := ⟨some 13, _, _, _, _, _⟩) (v := ?_) rfl (by kernel_rfl) (by kernel_rfl) (by kernel_rfl) (fun _ _ _ h => h) (Or.inl ⟨by rfl, ?_⟩) (by assumption) ?_
        rotate_left
        · intro wS hSw; (try dsimp only at hSw); go_simp; try with_reducible rfl
        try simp only [Act.put, List.setIfInBounds_toArray, List.set_cons_zero, List.set_cons_succ]
        refine wpAnyH_take (i := 4) (oi := ⟨some 14, _, _, _, _, _⟩) (v := ?_) rfl (by kernel_rfl) (by kernel_rfl) (by kernel_rfl) (fun _ _ _ h => h) (Or.inl ⟨by rfl, ?_⟩) (by assumption) ?_
        rotate_left
        · intro wS hSw; (try dsimp only at hSw); go_simp; try with_reducible rfl
        try simp only [Act.put, List.setIfInBounds_toArray, List.set_cons_zero, List.set_cons_succ]
        refine wpAnyH_take (i := 5) (oi := ⟨some 15, _, _, _, _, _⟩) (v := ?_) rfl (by kernel_rfl) (by kernel_rfl) (by kernel_rfl) (fun _ _ _ h => h) (Or.inl ⟨by rfl, ?_⟩) (by assumption) ?_
        rotate_left
        · intro wS hSw; (try dsimp only at hSw); go_simp; try with_reducible rfl
        try simp only [Act.put, List.setIfInBounds_toArray, List.set_cons_zero, List.set_cons_succ]
        refine wpAnyH_take (i := 6) (oi := ⟨some 16, _, _, _, _, _⟩) (v := ?_) rfl (by kernel_rfl) (by kernel_rfl) (by kernel_rfl) (fun _ _ _ h => h) (Or.inl ⟨by rfl, ?_⟩) (by assumption) ?_
        rotate_left
        · intro wS hSw; (try dsimp only at hSw); go_simp; try with_reducible rfl
        try simp only [Act.put, List.setIfInBounds_toArray, List.set_cons_zero, List.set_cons_succ]
        refine wpAnyH_take (i := 7) (oi := ⟨some 17, _, _, _, _, _⟩) (v := ?_) rfl (by kernel_rfl) (by kernel_rfl) (by kernel_rfl) (fun _ _ _ h => h) (Or.inl ⟨by rfl, ?_⟩) (by assumption) ?_
        rotate_left
        · intro wS hSw; (try dsimp only at hSw); go_simp; try with_reducible rfl
        try simp only [Act.put, List.setIfInBounds_toArray, List.set_cons_zero, List.set_cons_succ]
        refine wpAnyH_take (i := 8) (oi := ⟨some 18, _, _, _, _, _⟩) (v := ?_) rfl (by kernel_rfl) (by kernel_rfl) (by kernel_rfl) (fun _ _ _ h => h) (Or.inl ⟨by rfl, ?_⟩) (by assumption) ?_
        rotate_left
        · intro wS hSw; (try dsimp only at hSw); go_simp; try with_reducible rfl
        try simp only [Act.put, List.setIfInBounds_toArray, List.set_cons_zero, List.set_cons_succ]
        refine wpAnyH_take (i := 9) (oi := ⟨some 19, _, _, _, _, _⟩) (v := ?_) rfl (by kernel_rfl) (by kernel_rfl) (by kernel_rfl) (fun _ _ _ h => h) (Or.inl ⟨by rfl, ?_⟩) (by assumption) ?_
        rotate_left
        · intro wS hSw; (try dsimp only at hSw); go_simp; try with_reducible rfl
        try simp only [Act.put, List.setIfInBounds_toArray, List.set_cons_zero, List.set_cons_succ]
        refine wpAnyH_take (i := 10) (oi := ⟨some 20, _, _, _, _, _⟩) (v := ?_) rfl (by kernel_rfl) (by kernel_rfl) (by kernel_rfl) (fun _ _ _ h => h) (Or.inl ⟨by rfl, ?_⟩) (by assumption) ?_
        rotate_left
        · intro wS hSw; (try dsimp only at hSw); go_simp; try with_reducible rfl
        try simp only [Act.put, List.setIfInBounds_toArray, List.set_cons_zero, List.set_cons_succ]
        refine wpAnyH_take (i := 11) (oi := ⟨some 21, _, _, _, _, _⟩) (v := ?_) rfl (by kernel_rfl) (by kernel_rfl) (by kernel_rfl) (fun _ _ _ h => h) (Or.inl ⟨by rfl, ?_⟩) (by assumption) ?_
        rotate_left
        · intro wS hSw; (try dsimp only at hSw); go_simp; try with_reducible rfl
        try simp only [Act.put, List.setIfInBounds_toArray, List.set_cons_zero, List.set_cons_succ]
        refine wpAnyH_take (i := 12) (oi := ⟨some 22, _, _, _, _, _⟩) (v := ?_) rfl (by kernel_rfl) (by kernel_rfl) (by kernel_rfl) (fun _ _ _ h => h) (Or.inl ⟨by rfl, ?_⟩) (by assumption) ?_
        rotate_left
        · intro wS hSw; (try dsimp only at hSw); go_simp; try with_reducible rfl
        try simp only [Act.put, List.setIfInBounds_toArray, List.set_cons_zero, List.set_cons_succ]
        refine wpAnyH_take (i := 13) (oi := ⟨some 23, _, _, _, _, _⟩) (v := ?_) rfl (by kernel_rfl) (by kernel_rfl) (by kernel_rfl) (fun _ _ _ h => h) (Or.inl ⟨by rfl, ?_⟩) (by assumption) ?_
        rotate_left
        · intro wS hSw; (try dsimp only at hSw); go_simp; try with_reducible rfl
        try simp only [Act.put, List.setIfInBounds_toArray, List.set_cons_zero, List.set_cons_succ]
        refine wpAnyH_take (i := 14) (oi := ⟨some 24, _, _, _, _, _⟩) (v := ?_) rfl (by kernel_rfl) (by kernel_rfl) (by kernel_rfl) (fun _ _ _ h => h) (Or.inl ⟨by rfl, ?_⟩) (by assumption) ?_
        rotate_left
        · intro wS hSw; (try dsimp only at hSw); go_simp; try with_reducible rfl
        try simp only [Act.put, List.setIfInBounds_toArray, List.set_cons_zero, List.set_cons_succ]
        refine wpAnyH_take (i := 15) (oi := ⟨some 25, _, _, _, _, _⟩) (v := ?_) rfl (by kernel_rfl) (by kernel_rfl) (by kernel_rfl) (fun _ _ _ h => h) (Or.inl ⟨by rfl, ?_⟩) (by assumption) ?_
        rotate_left
        · intro wS hSw; (try dsimp only at hSw); go_simp; try with_reducible rfl
        try simp only [Act.put, List.setIfInBounds_toArray, List.set_cons_zero, List.set_cons_succ]
        refine wpAnyH_take (i := 16) (oi := ⟨some 26, _, _, _, _, _⟩) (v := ?_) rfl (by kernel_rfl) (by kernel_rfl) (by kernel_rfl) (fun _ _ _ h => h) (Or.inl ⟨by rfl, ?_⟩) (by assumption) ?_
        rotate_left
        · intro wS hSw; (try dsimp only at hSw); go_simp; try with_reducible rfl
        try simp only [Act.put, List.setIfInBounds_toArray, List.set_cons_zero, List.set_cons_succ]
        refine wpAnyH_take (i := 17) (oi := ⟨some 27, _, _, _, _, _⟩) (v := ?_) rfl (by kernel_rfl) (by kernel_rfl) (by kernel_rfl) (fun _ _ _ h => h) (Or.inl ⟨by rfl, ?_⟩) (by assumption) ?_
        rotate_left
        · intro wS hSw; (try dsimp only at hSw); go_simp; try with_reducible rfl
        try simp only [Act.put, List.setIfInBounds_toArray, List.set_cons_zero, List.set_cons_succ]
        refine wpAnyH_take (i := 18) (oi := ⟨some 28, _, _, _, _, _⟩) (v := undef) rfl (by kernel_rfl) (by kernel_rfl) (by kernel_rfl) (fun _ _ _ h => h) (Or.inr ⟨by rfl, rfl⟩) (by assumption) ?_
        try simp only [Act.put, List.setIfInBounds_toArray, List.set_cons_zero, List.set_cons_succ]
        refine wpAnyH_take (i := 19) (oi := ⟨some 29, _, _, _, _, _⟩) (v := undef) rfl (by kernel_rfl) (by kernel_rfl) (by kernel_rfl) (fun _ _ _ h => h) (Or.inr ⟨by rfl, rfl⟩) (by assumption) ?_
        try simp only [Act.put, List.setIfInBounds_toArray, List.set_cons_zero, List.set_cons_succ]
        refine wpAnyH_take (i := 20) (oi := ⟨some 30, _, _, _, _, _⟩) (v := undef) rfl (by kernel_rfl) (by kernel_rfl) (by kernel_rfl) (fun _ _ _ h => h) (Or.inr ⟨by rfl, rfl⟩) (by assumption) ?_
        try simp only [Act.put, List.setIfInBounds_toArray, List.set_cons_zero, List.set_cons_succ]
        refine wpAnyH_take (i := 21) (oi := ⟨some 31, _, _, _, _, _⟩) (v := undef) rfl (by kernel_rfl) (by kernel_rfl) (by kernel_rfl) (fun _ _ _ h => h) (Or.inr ⟨by rfl, rfl⟩) (by assumption) ?_
        try simp only [Act.put, List.setIfInBounds_toArray, List.set_cons_zero, List.set_cons_succ]
        refine wpAnyH_take (i := 22) (oi := ⟨some 32, _, _, _, _, _⟩) (v := undef) rfl (by kernel_rfl) (by kernel_rfl) (by kernel_rfl) (fun _ _ _ h => h) (Or.inr ⟨by rfl, rfl⟩) (by assumption) ?_
        try simp only [Act.put, List.setIfInBounds_toArray, List.set_cons_zero, List.set_cons_succ]
        refine wpAnyH_take (i := 23) (oi := ⟨some 33, _, _, _, _, _⟩) (v := undef) rfl (by kernel_rfl) (by kernel_rfl) (by kernel_rfl) (fun _ _ _ h => h) (Or.inr ⟨by rfl, rfl⟩) (by assumption) ?_
        try simp only [Act.put, List.setIfInBounds_toArray, List.set_cons_zero, List.set_cons_succ]
        refine wpAnyH_take (i := 24) (oi := ⟨some 34, _, _, _, _, _⟩) (v := undef) rfl (by kernel_rfl) (by kernel_rfl) (by kernel_rfl) (fun _ _ _ h => h) (Or.inr ⟨by rfl, rfl⟩) (by assumption) ?_
        try simp only [Act.put, List.setIfInBounds_toArray, List.set_cons_zero, List.set_cons_succ]
        refine wpAnyH_take (i := 25) (oi := ⟨some 35, _, _, _, _, _⟩) (v := undef) rfl (by kernel_rfl) (by kernel_rfl) (by kernel_rfl) (fun _ _ _ h => h) (Or.inr ⟨by rfl, rfl⟩) (by assumption) ?_
        try simp only [Act.put, List.setIfInBounds_toArray, List.set_cons_zero, List.set_cons_succ]
        refine wpAnyH_take (i := 26) (oi := ⟨some 36, _, _, _, _, _⟩) (v := undef) rfl (by kernel_rfl) (by kernel_rfl) (by kernel_rfl) (fun _ _ _ h => h) (Or.inr ⟨by rfl, rfl⟩) (by assumption) ?_
        try simp only [Act.put, List.setIfInBounds_toArray, List.set_cons_zero, List.set_cons_succ]
        refine wpAnyH_take (i := 27) (oi := ⟨some 37, _, _, _, _, _⟩) (v := undef) rfl (by kernel_rfl) (by kernel_rfl) (by kernel_rfl) (fun _ _ _ h => h) (Or.inr ⟨by rfl, rfl⟩) (by assumption) ?_
        try simp only [Act.put, List.setIfInBounds_toArray, List.set_cons_zero, List.set_cons_succ]
        refine wpAnyH_take (i := 28) (oi := ⟨some 38, _, _, _, _, _⟩) (v := undef) rfl (by kernel_rfl) (by kernel_rfl) (by kernel_rfl) (fun _ _ _ h => h) (Or.inr ⟨by rfl, rfl⟩) (by assumption) ?_
        try simp only [Act.put, List.setIfInBounds_toArray, List.set_cons_zero, List.set_cons_succ]
        refine wpAnyH_take (i := 29) (oi := ⟨some 39, _, _, _, _, _⟩) (v := undef) rfl (by kernel_rfl) (by kernel_rfl) (by kernel_rfl) (fun _ _ _ h => h) (Or.inr ⟨by rfl, rfl⟩) (by assumption) ?_
        try simp only [Act.put, List.setIfInBounds_toArray, List.set_cons_zero, List.set_cons_succ]
        refine wpAnyH_take (i := 30) (oi := ⟨some 40, _, _, _, _, _⟩) (v := ?_) rfl (by kernel_rfl) (by kernel_rfl) (by kernel_rfl) (fun _ _ _ h => h) (Or.inl ⟨by rfl, ?_⟩) (by assumption) ?_
        rotate_left
        · intro wS hSw; (try dsimp only at hSw); go_simp; try with_reducible rfl
        try simp only [Act.put, List.setIfInBounds_toArray, List.set_cons_zero, List.set_cons_succ]
        refine wpAnyH_take (i := 31) (oi := ⟨some 41, _, _, _, _, _⟩) (v := ?_) rfl (by kernel_rfl) (by kernel_rfl) (by kernel_rfl) (fun _ _ _ h => h) (Or.inl ⟨by rfl, ?_⟩) (by assumption) ?_
        rotate_left
        · intro wS hSw; (try dsimp only at hSw); go_simp; try with_reducible rfl
        try simp only [Act.put, List.setIfInBounds_toArray, List.set_cons_zero, List.set_cons_succ]
        refine wpAnyH_take (i := 32) (oi := ⟨some 42, _, _, _, _, _⟩) (v := ?_) rfl (by kernel_rfl) (by kernel_rfl) (by kernel_rfl) (fun _ _ _ h => h) (Or.inl ⟨by rfl, ?_⟩) (by assumption) ?_
        rotate_left
        · intro wS hSw; (try dsimp only at hSw); go_simp; try with_reducible rfl
        try simp only [Act.put, List.setIfInBounds_toArray, List.set_cons_zero, List.set_cons_succ]
        refine wpAnyH_take (i := 33) (oi := ⟨some 43, _, _, _, _, _⟩) (v := ?_) rfl (by kernel_rfl) (by kernel_rfl) (by kernel_rfl) (fun _ _ _ h => h) (Or.inl ⟨by rfl, ?_⟩) (by assumption) ?_
        rotate_left
        · intro wS hSw; (try dsimp only at hSw); go_simp; try with_reducible rfl
        try simp only [Act.put, List.setIfInBounds_toArray, List.set_cons_zero, List.set_cons_succ]
        refine wpAnyH_take (i := 34) (oi := ⟨some 44, _, _, _, _, _⟩) (v := ?_) rfl (by kernel_rfl) (by kernel_rfl) (by kernel_rfl) (fun _ _ _ h => h) (Or.inl ⟨by rfl, ?_⟩) (by assumption) ?_
        rotate_left
        · intro wS hSw; (try dsimp only at hSw); go_simp; try with_reducible rfl
        try simp only [Act.put, List.setIfInBounds_toArray, List.set_cons_zero, List.set_cons_succ]
        refine wpAnyH_take (i := 35) (oi := ⟨some 45, _, _, _, _, _⟩) (v := ?_) rfl (by kernel_rfl) (by kernel_rfl) (by kernel_rfl) (fun _ _ _ h => h) (Or.inl ⟨by rfl, ?_⟩) (by assumption) ?_
        rotate_left
        · intro wS hSw; (try dsimp only at hSw); go_simp; try with_reducible rfl
        try simp only [Act.put, List.setIfInBounds_toArray, List.set_cons_zero, List.set_cons_succ]
        refine wpAnyH_take (i := 36) (oi := ⟨some 46, _, _, _, _, _⟩) (v := ?_) rfl (by kernel_rfl) (by kernel_rfl) (by kernel_rfl) (fun _ _ _ h => h) (Or.inl ⟨by rfl, ?_⟩) (by assumption) ?_
        rotate_left
        · intro wS hSw; (try dsimp only at hSw); go_simp; try with_reducible rfl
        try simp only [Act.put, List.setIfInBounds_toArray, List.set_cons_zero, List.set_cons_succ]
        refine wpAnyH_take (i := 37) (oi := ⟨some 47, _, _, _, _, _⟩) (v := ?_) rfl (by kernel_rfl) (by kernel_rfl) (by kernel_rfl) (fun _ _ _ h => h) (Or.inl ⟨by rfl, ?_⟩) (by assumption) ?_
        rotate_left
        · intro wS hSw; (try dsimp only at hSw); go_simp; try with_reducible rfl
        try simp only [Act.put, List.setIfInBounds_toArray, List.set_cons_zero, List.set_cons_succ]
        refine wpAnyH_ready (rs := [38]) (by kernel_rfl) (by simp) ?_
        refine AllReadyH.cons (o := ⟨some 48, _, _, _, _, _⟩) rfl (fun K hK => ?_) AllReadyH.nil
        go_simp
        go_at_call 44
        have hby := And.left hHeld
        refine (HCK.out _ hby).mono ?_
        rintro e wz ⟨rfl, hbz0⟩
        have hbz := bnext hby hbz0
        go_wp2_with fail
        refine hK.out _ _ (HS.out _ hbz) (fun hHeld2 => ?_)
        clear hK K hHeld
        have hHeld := hHeld2
        clear hHeld2
        try simp only [Act.put, List.setIfInBounds_toArray, List.set_cons_zero, List.set_cons_succ]
        refine wpAnyH_take (i := 39) (oi := ⟨some 49, _, _, _, _, _⟩) (v := ?_) rfl (by kernel_rfl) (by kernel_rfl) (by kernel_rfl) (fun _ _ _ h => h) (Or.inl ⟨by rfl, ?_⟩) (by assumption) ?_
        rotate_left
        · intro wS hSw; (try dsimp only at hSw); go_simp; try with_reducible rfl
        try simp only [Act.put, List.setIfInBounds_toArray, List.set_cons_zero, List.set_cons_succ]
        refine wpAnyH_take (i := 40) (oi := ⟨some 50, _, _, _, _, _⟩) (v := ?_) rfl (by kernel_rfl) (by kernel_rfl) (by kernel_rfl) (fun _ _ _ h => h) (Or.inl ⟨by rfl, ?_⟩) (by assumption) ?_
        rotate_left
        · intro wS hSw; (try dsimp only at hSw); go_simp; try with_reducible rfl
        try simp only [Act.put, List.setIfInBounds_toArray, List.set_cons_zero, List.set_cons_succ]
        refine wpAnyH_done (by kernel_rfl) ?_ _
        have hb10 := And.left hHeld
        have HB10 := Lib.hid (bnext HB.out hb10)
        clear hb10 HS
        by_cases hzz : z = 0
        · subst hzz
          have HE := Lib.hid (show okFrom (-1) l = okFrom pn (l.drop (0 + 1)) from by rw [HST.out, HM.out, decide_eq_true (show -1 < pn by omega), decide_eq_true (show pn ≤ 99 by omega)]; rfl)
          go_wp2_with fail
          go_roundw
          case rel => exact ⟨0 + 1, pn, by omega, by go_num, HE.out, fun h => by omega, fun _ => ⟨p, by simpa using HP.out, HPN.out⟩, by omega, by omega, HB10.out⟩
          case measure => simp [intOf]; omega
        · have HE := Lib.hid (show okFrom (-1) l = false from by rw [HST.out, HM.out, decide_eq_false hzz]; simp)
          have hzf : (z == 0) = false := by simpa using hzz
          have hzf2 : (z != 0) = true := by simpa using hzz
          go_wp2_with fail
          go_ret
          exact ⟨ret1_b (by rw [HE.out]), HB10.out⟩
      · obtain ⟨q, hq, hql⟩ := HLQ.out (by omega)
        obtain ⟨b', o', A2, c2, hA', _, e0, _⟩ := (HI.out.later HB.out).at_ hq
        injection hA' with hA'
        injection hA' with hb' ho'
        subst hb' ho'
        rw [hql] at e0
        have hd0 : decide (0 < (a : Int)) = true := decide_eq_true (by omega)
        have hpa : 0 < a := by omega
        have hpa2 : (0 : Int) < (a : Int) := by omega
        obtain ⟨m, hm⟩ : ∃ m, a - 1 = m := ⟨_, rfl⟩
        rw [hm] at e0
        have hw8 : ((a : Int) - 1) = (m : Int) := by omega
        have hw9 : IntKind.i64.wrap ((a : Int) - 1) = (m : Int) := by rw [hw8]; simp [IntKind.wrap, IntKind.bits, IntKind.signed]; omega
        clear hw8
        have hm0 : (0 : Int) ≤ (m : Int) := by omega
        have hml : (m : Int) < (l.length : Int) := by omega
        clear hq hql hm
        by_cases h3 : pn ≤ last
        · have HE := Lib.hid (show okFrom (-1) l = false from by rw [HST.out, decide_eq_false (show ¬ last < pn by omega)]; rfl)
          have hd3 : decide (pn ≤ last) = true := decide_eq_true h3
          go_wp2_with fail
          go_quiet (fail)
          go_wp2_with fail
          go_ret
          exact ⟨ret1_b (by rw [HE.out]), Below.drewN HB.out⟩
        · have hd3 : decide (pn ≤ last) = false := decide_eq_false h3
          go_wp2_with fail
          have hbl9 := hbl
          have HS := Lib.hid (show ∀ wx, Below wr.heap.size wr wx → (Below wr.heap.size wr wx ∧ wx.cell? ⟨b, o + a * 5, none⟩ = some (.int .i64 pn) ∧ wx.cell? ⟨b, o + a * 5 + 1, none⟩ = some (.int .i64 t.k) ∧ wx.cell? ⟨b, o + a * 5 + 2, none⟩ = some (.int .i64 t.n) ∧ wx.cell? ⟨b, o + a * 5 + 3, none⟩ = some (.string t.s) ∧ wx.cell? ⟨b, o + a * 5 + 4, none⟩ = some (.slice A' t.l.length c') ∧ wx.cell? ⟨b, o + m * 5, none⟩ = some (.int .i64 last)) from fun wx hx => ⟨hx, (hx.cell (p := ⟨b, _, none⟩) hbl9).trans d0, (hx.cell (p := ⟨b, _, none⟩) hbl9).trans d1, (hx.cell (p := ⟨b, _, none⟩) hbl9).trans d2, (hx.cell (p := ⟨b, _, none⟩) hbl9).trans d3, (hx.cell (p := ⟨b, _, none⟩) hbl9).trans d4, (hx.cell (p := ⟨b, _, none⟩) hbl9).trans e0⟩)
          go_region_held3 (fun wx => Below wr.heap.size wr wx ∧ wx.cell? ⟨b, o + a * 5, none⟩ = some (.int .i64 pn) ∧ wx.cell? ⟨b, o + a * 5 + 1, none⟩ = some (.int .i64 t.k) ∧ wx.cell? ⟨b, o + a * 5 + 2, none⟩ = some (.int .i64 t.n) ∧ wx.cell? ⟨b, o + a * 5 + 3, none⟩ = some (.string t.s) ∧ wx.cell? ⟨b, o + a * 5 + 4, none⟩ = some (.slice A' t.l.length c') ∧ wx.cell? ⟨b, o + m * 5, none⟩ = some (.int .i64 last)) (first
            | exact HS.out _ (btodrew (Below.refl _ _))
            | exact HS.out _ hbz
            | assumption) (first
            | (go_at_call 44
               have hby := And.left (by assumption)
               refine (HCK.out _ hby).mono ?_
               rintro e wz ⟨rfl, hbz0⟩
               have hbz := bnext hby hbz0)
            | fail)
          have hb10 := And.left (by assumption)
          have HB10 := Lib.hid (bnext HB.out hb10)
          clear hb10 HS
          by_cases hzz : z = 0
          · subst hzz
            have HE := Lib.hid (show okFrom (-1) l = okFrom pn (l.drop (a + 1)) from by rw [HST.out, HM.out, decide_eq_true (show last < pn by omega), decide_eq_true (show pn ≤ 99 by omega)]; rfl)
            go_wp2_with fail
            go_roundw
            case rel => exact ⟨a + 1, pn, by omega, by go_num, HE.out, fun h => by omega, fun _ => ⟨p, by simpa using HP.out, HPN.out⟩, by omega, by omega, HB10.out⟩
            case measure => simp [intOf]; omega
          · have HE := Lib.hid (show okFrom (-1) l = false from by rw [HST.out, HM.out, decide_eq_false hzz]; simp)
            have hzf : (z == 0) = false := by simpa using hzz
            have hzf2 : (z != 0) = true := by simpa using hzz
            go_wp2_with fail
            go_ret
            exact ⟨ret1_b (by rw [HE.out]), HB10.out⟩
    · obtain rfl : a = l.length := by omega
      have HE := Lib.hid (show okFrom (-1) l = true from by rw [HOK.out, List.drop_length]; rfl)
      go_wp2_with fail
      go_ret
      exact ⟨ret1_b (by rw [HE.out]), HB.out⟩
end Go.Proofs.Ytlaplakaifmpeaa.Pt
