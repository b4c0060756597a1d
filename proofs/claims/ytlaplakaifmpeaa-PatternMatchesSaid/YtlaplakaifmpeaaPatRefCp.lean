/- tenureref16.Copies, tenurelaw16.copied, tenureref16.More, Match, by contracts. (Printed by wip/bin/mk_copies.py.) -/
import Derived.Test.YtlaplakaifmpeaaPatRefM
namespace Go.Proofs.Ytlaplakaifmpeaa.Pt
open Go.RowKit K Go.Shelf
set_option linter.unusedVariables false
set_option linter.unusedSimpArgs false

/-- A row of our own of bindings that read, from block B on. -/
def BRr (w : World) (B : Nat) (v : Value) (l : List Bnd) : Prop :=
  ∃ G xs, BVr w G l xs ∧ (∀ b, G b → b < w.heap.size ∧ B ≤ b ∧ v.ownBlock ≠ some b) ∧ w.ownsRow B 35 5 v l.length xs
section
variable {w w' : World} {F G G' : Nat → Prop} {l l' : List Bnd} {xs xs' : List Value} {B : Nat} {v : Value}
theorem BVr.keepF (h : BVr w G l xs) (hk : Keep F w w') (hG : ∀ b, G b → b < w.heap.size ∧ ¬ F b) : BVr w' G l xs :=
  h.keep fun p hp => hk.cell (hG _ hp).1 (hG _ hp).2
theorem BRr.none_ (w : World) (B : Nat) : BRr w B (.slice none 0 0) [] := ⟨fun _ => False, [], .nil, fun _ h => h.elim, World.ownsRow_nil _ _ _ _⟩
theorem BRr.form (h : BRr w B v l) : ∃ A c, v = .slice A l.length c ∧ l.length ≤ c ∧ c ≤ maxLen := by
  obtain ⟨G, xs, _, _, hR⟩ := h
  exact ownsRow_form hR
theorem BRr.later (h : BRr w B v l) (hb : Below w.heap.size w w') : BRr w' B v l := by
  obtain ⟨G, xs, h1, h2, h3⟩ := h
  exact ⟨G, xs, h1.keepF (F := fun _ => False) (Keep.new hb) (fun b hb' => ⟨(h2 b hb').1, fun h => h⟩), fun b hb' => ⟨Nat.lt_of_lt_of_le (h2 b hb').1 hb.size, (h2 b hb').2⟩, ownsRow_below h3 hb (fun r hr => (h3.lt r hr).2)⟩
theorem BRr.bc {A : Option Addr} {n c : Nat} (h : BRr w B (.slice A n c) l) : n = l.length ∧ BcAt w A c l := by
  obtain ⟨A', c', e, h4, h5⟩ := h.form
  injection e with e1 e2 e3
  subst e1 e2 e3
  obtain ⟨G, xs, h1, h2, h3⟩ := h
  exact ⟨rfl, bs_of_row h1 (fun b hb => (h2 b hb).1) h3, h4, h5⟩
theorem BRr.snoc {G H : Nat → Prop} {w3 : World} {v' : Value} {o : Obj} {p : Bnd} {k m : Int} {s : ByteArray} {A : Option Addr} {len c : Nat} (h1 : BVr w G l xs) (h2 : ∀ b, G b → b < w.heap.size ∧ B ≤ b ∧ v.ownBlock ≠ some b) (ht : TAt w H p.2 (.agg #[.int .i64 k, .int .i64 m, .string s, .slice A len c])) (hH : ∀ b, H b → b < w.heap.size ∧ B ≤ b ∧ v.ownBlock ≠ some b)
    (hg : (w.alloc o).grownBy w3 v.ownBlock) (hR : w3.ownsRow B 35 5 v' (l.length + 1) (xs ++ [.int .i64 p.1, .int .i64 k, .int .i64 m, .string s, .slice A len c])) (hat : v'.ownBlock = v.ownBlock ∨ v'.ownBlock = some (w.alloc o).heap.size) : BRr w3 B v' (l ++ [p]) := by
  have hsz : w.heap.size + 1 ≤ w3.heap.size := by have := hg.size; simpa using this
  have hk : Keep (fun b => v.ownBlock = some b) w w3 := ((Keep.refl _ w).alloc o).grown hg (fun b hb => .inl hb)
  have e1 : BVr w (fun b => G b ∨ H b) l xs := h1.mono (fun b h => .inl h)
  have e2 : BVr w (fun b => G b ∨ H b) [p] [.int .i64 p.1, .int .i64 k, .int .i64 m, .string s, .slice A len c] := .cons (ht.mono (fun b h => .inr h)) .nil
  have hGH : ∀ b, (G b ∨ H b) → b < w.heap.size ∧ B ≤ b ∧ v.ownBlock ≠ some b := fun b hb => hb.elim (h2 b) (hH b)
  refine ⟨fun b => G b ∨ H b, _, (e1.append e2).keepF hk (fun b hb => ⟨(hGH b hb).1, (hGH b hb).2.2⟩), fun b hb => ?_, by simpa using hR⟩
  have h0 := hGH b hb
  refine ⟨by omega, h0.2.1, ?_⟩
  rcases hat with h | h
  · rw [h]; exact h0.2.2
  · rw [h]; intro e; injection e with e; simp at e; omega
end
set_option maxRecDepth 100000 in
set_option maxHeartbeats 8000000 in
theorem rcopies_any (l : List Bnd) (A : Option Addr) (c : Nat) (w : World) (h : BsAt w (· < w.heap.size) A l) (hl : l.length ≤ 65536) (hn : ∀ q ∈ l, nodes q.2 ≤ 1048576) :
    Calls Try.prog 47 #[.slice A l.length c] w fun e w' => ∃ A' c', e = .returned (.slice A' l.length c') ∧ BRr w' w.heap.size (.slice A' l.length c') l ∧ Below w.heap.size w w' := by
  have HI := Lib.hid h; have HN := Lib.hid hn
  obtain ⟨i0, hi, hz0, hz1, hz2⟩ := info_parts infoB
  clear h hn
  go_enter Try.func47, Try.ntmps47
  go_wp2_with fail
  go_loopw [3, 4] (fun x y wr => ∃ (i : Nat) (A3 : Option Addr) (c3 : Nat), i ≤ l.length ∧ y = .int .i64 (i : Int) ∧ x = .slice A3 i c3 ∧ BRr wr w.heap.size (.slice A3 i c3) (l.take i) ∧ Below w.heap.size w wr) (fun _ y _ => l.length - (intOf y).toNat)
  case atStart => exact ⟨0, none, 0, Nat.zero_le _, rfl, rfl, by rw [List.take_zero]; exact BRr.none_ _ _, Below.refl _ _⟩
  case round =>
    obtain ⟨i, A3, c3, hil, rfl, rfl, hrow, hb⟩ := hrel
    have HROW := Lib.hid hrow; have HB := Lib.hid hb
    have hbz := hb.size
    have hlk : (l.take i).length = i := by rw [List.length_take]; omega
    by_cases hlt : i < l.length
    · obtain ⟨⟨pn, pt⟩, hp⟩ : ∃ p, l[i]? = some p := ⟨_, List.getElem?_eq_getElem hlt⟩
      obtain ⟨b, o, A', c', rfl, hbl, d0, d1, d2, d3, d4, hta⟩ := HI.out.at_ hp
      dsimp only at d0 d1 d2 d3 d4 hta
      have HS := Lib.hid (show ∀ wx, Below w.heap.size w wx → (Below w.heap.size w wx ∧ wx.cell? ⟨b, o + i * 5, none⟩ = some (.int .i64 pn) ∧ wx.cell? ⟨b, o + i * 5 + 1, none⟩ = some (.int .i64 pt.k) ∧ wx.cell? ⟨b, o + i * 5 + 2, none⟩ = some (.int .i64 pt.n) ∧ wx.cell? ⟨b, o + i * 5 + 3, none⟩ = some (.string pt.s) ∧ wx.cell? ⟨b, o + i * 5 + 4, none⟩ = some (.slice A' pt.l.length c')) from fun wx hx => ⟨hx, (hx.cell (p := ⟨b, _, none⟩) hbl).trans d0, (hx.cell (p := ⟨b, _, none⟩) hbl).trans d1, (hx.cell (p := ⟨b, _, none⟩) hbl).trans d2, (hx.cell (p := ⟨b, _, none⟩) hbl).trans d3, (hx.cell (p := ⟨b, _, none⟩) hbl).trans d4⟩)
      have HC := Lib.hid (rcopy_any pt (HN.out (pn, pt) (List.mem_of_getElem? hp)) (.agg #[.int .i64 pt.k, .int .i64 pt.n, .string pt.s, .slice A' pt.l.length c']) wr.drew (TA.later hta (btodrew HB.out)))
      have HP := Lib.hid (take_snoc_of hp)
      have HLK := Lib.hid hlk
      have hi0 : (0 : Int) ≤ (i : Int) := by omega
      have hil2 : (i : Int) < (l.length : Int) := by omega
      obtain ⟨_, e0, e1, e2, e3, e4⟩ := HS.out wr HB.out
      clear hrow hb hlk hp hta hbl d0 d1 d2 d3 d4
      go_wp2_with fail
      go_region_held3 (fun wx => Below w.heap.size w wx ∧ wx.cell? ⟨b, o + i * 5, none⟩ = some (.int .i64 pn) ∧ wx.cell? ⟨b, o + i * 5 + 1, none⟩ = some (.int .i64 pt.k) ∧ wx.cell? ⟨b, o + i * 5 + 2, none⟩ = some (.int .i64 pt.n) ∧ wx.cell? ⟨b, o + i * 5 + 3, none⟩ = some (.string pt.s) ∧ wx.cell? ⟨b, o + i * 5 + 4, none⟩ = some (.slice A' pt.l.length c')) (first
        | exact HS.out _ (btodrew HB.out)
        | exact HS.out _ HB4.out
        | exact HS.out _ (ballocs HB4.out _)
        | exact HS.out _ HB5.out
        | assumption) (first
        | (go_at_call 52
           refine HC.out.mono ?_
           rintro e w4 ⟨v4, rfl, hx4, hb40⟩
           obtain ⟨A4, c4, rfl, _, _⟩ := hx4.inv
           unfold tv at hx4 ⊢
           have hb4 : Below wr.heap.size wr w4 := (btodrew (Below.refl _ _)).trans hb40
           have HB4 := Lib.hid (show Below w.heap.size w w4 from HB.out.trans (hb4.mono hbz))
           obtain ⟨G, xs, h1, h2, h3⟩ := HROW.out.later hb4
           rw [HLK.out] at h3
           have hz4 := hb4.size
           obtain ⟨v5, w5, hrun, hR5, hg5, _, hat5⟩ := run_append_own_at (P := Try.prog) (w4.alloc (.cells #[.int .i64 pn, .int .i64 pt.k, .int .i64 pt.n, .string pt.s, .slice A4 pt.l.length c4] 35)) w.heap.size 25 25 35 i0 _ 5 64 Try.underlying25 hi hz0 hz1 hz2 rfl (by decide) (.slice A3 i c3) i _ (h3.alloc _)
             ⟨w4.heap.size, 0, none⟩ 1 1 [.int .i64 pn, .int .i64 pt.k, .int .i64 pt.n, .string pt.s, .slice A4 pt.l.length c4] rfl (fun q u hq => by
             rw [add_plain', (Blk.new w4 35 #[.int .i64 pn, .int .i64 pt.k, .int .i64 pt.n, .string pt.s, .slice A4 pt.l.length c4]).cell]
             simpa using hq) (by simp [Value.oneCell']) (by unfold maxLen; omega) (by omega) (by simp; omega)
           obtain ⟨A5, c5, rfl, _, _⟩ := ownsRow_form hR5
           have hS := BRr.snoc (p := (pn, pt)) (H := Fr wr w4) h1 h2 (hx4.mono (fun b hb => hb)) (fun b hb => ⟨hb.2, Nat.le_trans hbz hb.1, fun e => by
             obtain ⟨_, _, _, _, h9⟩ := HROW.out
             have := (h9.lt b e).2
             have := hb.1
             omega⟩) hg5 (by rw [HLK.out]; exact hR5) hat5
           have HSN := Lib.hid (show BRr w5 w.heap.size (.slice A5 (i + 1) c5) (l.take (i + 1)) from by rw [HP.out]; exact hS)
           have HB5 := Lib.hid (show Below w.heap.size w w5 from (ballocs HB4.out _).grown hg5 (by simp; omega) (fun r hr => (h3.lt r hr).1))
           have HRUN := Lib.hid hrun
           clear hx4 hb40 hb4 h1 h2 h3 hrun hR5 hg5 hat5 hS)
        | (refine step_append_run (.tmp 11) (.tmp 24) 25 _ _ _ HRUN.out rfl rfl (by simp [Act.eval, Act.put]) (by simp [Act.eval, Act.put]) ?_)
        | fail)
      go_wp2_with fail
      go_roundw
      case rel => exact ⟨i + 1, A5, c5, by omega, by go_num, rfl, HSN.out, HB5.out⟩
      case measure => simp [intOf]; omega
    · obtain rfl : i = l.length := by omega
      rw [List.take_length] at HROW
      clear hrow hb
      go_wp2_with fail
      go_ret
      exact ⟨A3, c3, rfl, HROW.out, HB.out⟩
set_option maxRecDepth 100000 in
set_option maxHeartbeats 8000000 in
theorem copied_any (l : List Bnd) (A : Option Addr) (c : Nat) (w : World) (h : BsAt w (· < w.heap.size) A l) (hl : l.length ≤ 65536) (hn : ∀ q ∈ l, nodes q.2 ≤ 1048576) :
    Calls Try.prog 11 #[.slice A l.length c] w fun e w' => ∃ A' c', e = .returned (.slice A' l.length c') ∧ BRr w' w.heap.size (.slice A' l.length c') l ∧ Below w.heap.size w w' := by
  have HI := Lib.hid h; have HN := Lib.hid hn
  obtain ⟨i0, hi, hz0, hz1, hz2⟩ := info_parts infoB
  clear h hn
  go_enter Try.func11, Try.ntmps11
  go_wp2_with fail
  go_loopw [3, 4] (fun x y wr => ∃ (i : Nat) (A3 : Option Addr) (c3 : Nat), i ≤ l.length ∧ y = .int .i64 (i : Int) ∧ x = .slice A3 i c3 ∧ BRr wr w.heap.size (.slice A3 i c3) (l.take i) ∧ Below w.heap.size w wr) (fun _ y _ => l.length - (intOf y).toNat)
  case atStart => exact ⟨0, none, 0, Nat.zero_le _, rfl, rfl, by rw [List.take_zero]; exact BRr.none_ _ _, Below.refl _ _⟩
  case round =>
    obtain ⟨i, A3, c3, hil, rfl, rfl, hrow, hb⟩ := hrel
    have HROW := Lib.hid hrow; have HB := Lib.hid hb
    have hbz := hb.size
    have hlk : (l.take i).length = i := by rw [List.length_take]; omega
    by_cases hlt : i < l.length
    · obtain ⟨⟨pn, pt⟩, hp⟩ : ∃ p, l[i]? = some p := ⟨_, List.getElem?_eq_getElem hlt⟩
      obtain ⟨b, o, A', c', rfl, hbl, d0, d1, d2, d3, d4, hta⟩ := HI.out.at_ hp
      dsimp only at d0 d1 d2 d3 d4 hta
      have HS := Lib.hid (show ∀ wx, Below w.heap.size w wx → (Below w.heap.size w wx ∧ wx.cell? ⟨b, o + i * 5, none⟩ = some (.int .i64 pn) ∧ wx.cell? ⟨b, o + i * 5 + 1, none⟩ = some (.int .i64 pt.k) ∧ wx.cell? ⟨b, o + i * 5 + 2, none⟩ = some (.int .i64 pt.n) ∧ wx.cell? ⟨b, o + i * 5 + 3, none⟩ = some (.string pt.s) ∧ wx.cell? ⟨b, o + i * 5 + 4, none⟩ = some (.slice A' pt.l.length c')) from fun wx hx => ⟨hx, (hx.cell (p := ⟨b, _, none⟩) hbl).trans d0, (hx.cell (p := ⟨b, _, none⟩) hbl).trans d1, (hx.cell (p := ⟨b, _, none⟩) hbl).trans d2, (hx.cell (p := ⟨b, _, none⟩) hbl).trans d3, (hx.cell (p := ⟨b, _, none⟩) hbl).trans d4⟩)
      have HC := Lib.hid (copyTerm_any pt (HN.out (pn, pt) (List.mem_of_getElem? hp)) (.agg #[.int .i64 pt.k, .int .i64 pt.n, .string pt.s, .slice A' pt.l.length c']) wr.drew (TA.later hta (btodrew HB.out)))
      have HP := Lib.hid (take_snoc_of hp)
      have HLK := Lib.hid hlk
      have hi0 : (0 : Int) ≤ (i : Int) := by omega
      have hil2 : (i : Int) < (l.length : Int) := by omega
      obtain ⟨_, e0, e1, e2, e3, e4⟩ := HS.out wr HB.out
      clear hrow hb hlk hp hta hbl d0 d1 d2 d3 d4
      go_wp2_with fail
      go_region_held3 (fun wx => Below w.heap.size w wx ∧ wx.cell? ⟨b, o + i * 5, none⟩ = some (.int .i64 pn) ∧ wx.cell? ⟨b, o + i * 5 + 1, none⟩ = some (.int .i64 pt.k) ∧ wx.cell? ⟨b, o + i * 5 + 2, none⟩ = some (.int .i64 pt.n) ∧ wx.cell? ⟨b, o + i * 5 + 3, none⟩ = some (.string pt.s) ∧ wx.cell? ⟨b, o + i * 5 + 4, none⟩ = some (.slice A' pt.l.length c')) (first
        | exact HS.out _ (btodrew HB.out)
        | exact HS.out _ HB4.out
        | exact HS.out _ (ballocs HB4.out _)
        | exact HS.out _ HB5.out
        | assumption) (first
        | (go_at_call 10
           refine HC.out.mono ?_
           rintro e w4 ⟨v4, rfl, hx4, hb40⟩
           obtain ⟨A4, c4, rfl, _, _⟩ := hx4.inv
           unfold tv at hx4 ⊢
           have hb4 : Below wr.heap.size wr w4 := (btodrew (Below.refl _ _)).trans hb40
           have HB4 := Lib.hid (show Below w.heap.size w w4 from HB.out.trans (hb4.mono hbz))
           obtain ⟨G, xs, h1, h2, h3⟩ := HROW.out.later hb4
           rw [HLK.out] at h3
           have hz4 := hb4.size
           obtain ⟨v5, w5, hrun, hR5, hg5, _, hat5⟩ := run_append_own_at (P := Try.prog) (w4.alloc (.cells #[.int .i64 pn, .int .i64 pt.k, .int .i64 pt.n, .string pt.s, .slice A4 pt.l.length c4] 35)) w.heap.size 25 25 35 i0 _ 5 64 Try.underlying25 hi hz0 hz1 hz2 rfl (by decide) (.slice A3 i c3) i _ (h3.alloc _)
             ⟨w4.heap.size, 0, none⟩ 1 1 [.int .i64 pn, .int .i64 pt.k, .int .i64 pt.n, .string pt.s, .slice A4 pt.l.length c4] rfl (fun q u hq => by
             rw [add_plain', (Blk.new w4 35 #[.int .i64 pn, .int .i64 pt.k, .int .i64 pt.n, .string pt.s, .slice A4 pt.l.length c4]).cell]
             simpa using hq) (by simp [Value.oneCell']) (by unfold maxLen; omega) (by omega) (by simp; omega)
           obtain ⟨A5, c5, rfl, _, _⟩ := ownsRow_form hR5
           have hS := BRr.snoc (p := (pn, pt)) (H := Fr wr w4) h1 h2 (hx4.mono (fun b hb => hb)) (fun b hb => ⟨hb.2, Nat.le_trans hbz hb.1, fun e => by
             obtain ⟨_, _, _, _, h9⟩ := HROW.out
             have := (h9.lt b e).2
             have := hb.1
             omega⟩) hg5 (by rw [HLK.out]; exact hR5) hat5
           have HSN := Lib.hid (show BRr w5 w.heap.size (.slice A5 (i + 1) c5) (l.take (i + 1)) from by rw [HP.out]; exact hS)
           have HB5 := Lib.hid (show Below w.heap.size w w5 from (ballocs HB4.out _).grown hg5 (by simp; omega) (fun r hr => (h3.lt r hr).1))
           have HRUN := Lib.hid hrun
           clear hx4 hb40 hb4 h1 h2 h3 hrun hR5 hg5 hat5 hS)
        | (refine step_append_run (.tmp 11) (.tmp 24) 25 _ _ _ HRUN.out rfl rfl (by simp [Act.eval, Act.put]) (by simp [Act.eval, Act.put]) ?_)
        | fail)
      go_wp2_with fail
      go_roundw
      case rel => exact ⟨i + 1, A5, c5, by omega, by go_num, rfl, HSN.out, HB5.out⟩
      case measure => simp [intOf]; omega
    · obtain rfl : i = l.length := by omega
      rw [List.take_length] at HROW
      clear hrow hb
      go_wp2_with fail
      go_ret
      exact ⟨A3, c3, rfl, HROW.out, HB.out⟩
end Go.Proofs.Ytlaplakaifmpeaa.Pt
