/- pattern.read, by its contract. -/
import Derived.Test.YtlaplakaifmpeaaPatBinds
namespace Go.Proofs.Ytlaplakaifmpeaa.Pt
open Go.RowKit K Go.Shelf
set_option linter.unusedVariables false
set_option linter.unusedSimpArgs false

theorem bdrew_any {B : Nat} {w w' : World} (h : Below B w w') : Below B w w'.drew := ⟨h.os, h.tape, h.output, h.size, h.block⟩
def ReadPost (w : World) (N : Nat) (l : List Bnd) (e : Ending) (w' : World) : Prop :=
  (okFrom (-1) l = false ∧ e = .returned (.pointer none) ∧ Below w.heap.size w w') ∨ (okFrom (-1) l = true ∧ e = .returned (.pointer (some ⟨w.heap.size, 0, none⟩)) ∧ BdI w' w.heap.size N (bfold l) ∧ Below w.heap.size w w')
set_option maxRecDepth 100000 in
set_option maxHeartbeats 8000000 in
theorem read_any (l : List Bnd) (A : Option Addr) (c N : Nat) (w : World) (hl : l.length ≤ maxLen) (h : BsAt w (· < N) A l) (hN : N ≤ w.heap.size) (hn : ∀ p ∈ l, nodes p.2 ≤ 1048576) :
    Calls Try.prog 40 #[.slice A l.length c] w (ReadPost w N l) := by
  unfold maxLen at hl
  have HI0 := Lib.hid (BdI.new w N hN)
  have HH := Lib.hid h
  have HN := Lib.hid hn
  have HB0 := Lib.hid (show Below w.heap.size w (w.alloc (.cells Try.zeroCells67 67)) from ballocs (Below.refl _ _) _)
  clear h hn
  go_enter Try.func40, Try.ntmps40
  go_wp2_with fail
  go_loopw [4, 11] (fun x y wr => ∃ (i : Nat) (last : Int), i ≤ l.length ∧ y = .int .i64 (i : Int) ∧ x = .int .i64 last ∧ okFrom (-1) l = okFrom last (l.drop i) ∧ -1 ≤ last ∧ last ≤ 99 ∧ BdI wr w.heap.size N (bfold (l.take i)) ∧ Below w.heap.size w wr) (fun _ y _ => l.length - (intOf y).toNat)
  case atStart => exact ⟨0, -1, Nat.zero_le _, rfl, rfl, rfl, by omega, by omega, HI0.out, HB0.out⟩
  case round =>
    obtain ⟨i, last, hi, rfl, rfl, hok, hl1, hl2, hbd, hbl⟩ := hrel
    clear HI0 HB0
    have HBD := Lib.hid hbd; have HBL := Lib.hid hbl; have HOK := Lib.hid hok
    by_cases hlt : i < l.length
    · obtain ⟨p, hp⟩ : ∃ p, l[i]? = some p := ⟨_, List.getElem?_eq_getElem hlt⟩
      obtain ⟨b, o, A', c', rfl, hb, d0, d1, d2, d3, d4, hta⟩ := (HH.out.keep (w' := wr) (fun q hq => hbl.cell (Nat.lt_of_lt_of_le hq hN))).at_ hp
      have hdrop : l.drop i = p :: l.drop (i + 1) := by
        obtain ⟨h1, h2⟩ := List.getElem?_eq_some_iff.1 hp
        rw [List.drop_eq_getElem_cons h1, h2]
      have htake := take_snoc_of hp
      have HST := Lib.hid (show okFrom (-1) l = ((decide (last < p.1) && (decide (p.1 ≤ 99) && mayT p.2)) && okFrom p.1 (l.drop (i + 1))) from by rw [hok, hdrop]; rfl)
      have HTK := Lib.hid (show bfold (l.take (i + 1)) = upd (bfold (l.take i)) p.1.toNat p.2 from by rw [htake, bfold_snoc])
      have HND := Lib.hid (HN.out p (List.mem_of_getElem? hp))
      obtain ⟨t, ht⟩ : ∃ t, p.2 = t := ⟨_, rfl⟩
      obtain ⟨pn, hpn⟩ : ∃ x, p.1 = x := ⟨_, rfl⟩
      rw [ht] at d1 d2 d3 d4 hta HST HTK HND
      rw [hpn] at d0 HST HTK
      have HTA := Lib.hid hta
      have hi0 : (0 : Int) ≤ (i : Int) := by omega
      have hil : (i : Int) < (l.length : Int) := by omega
      obtain ⟨W3, hW3⟩ : ∃ W3, wr.alloc (.cells #[.int .i64 pn, .int .i64 t.k, .int .i64 t.n, .string t.s, .slice A' t.l.length c'] 35) = W3 := ⟨_, rfl⟩
      have hb3 : Below wr.heap.size wr W3 := by rw [← hW3]; exact ballocs (Below.refl _ _) _
      have HB3 := Lib.hid hb3
      have hbx : Blk W3 wr.heap.size 35 #[.int .i64 pn, .int .i64 t.k, .int .i64 t.n, .string t.s, .slice A' t.l.length c'] := by rw [← hW3]; exact Blk.new _ _ _
      have HBX := Lib.hid hbx
      have hwz := hbl.size
      have hTA3 : TA W3 t (.agg #[.int .i64 t.k, .int .i64 t.n, .string t.s, .slice A' t.l.length c']) := TA.later (hta.mono (fun b hb => by omega)) hb3
      have HMAY := Lib.hid (may_any t _ W3 hTA3 HND.out)
      have HW3 := Lib.hid hW3
      clear hok hbd hbl hp hdrop htake ht hpn hta hb hW3 hb3 hbx hTA3
      by_cases h1 : pn ≤ last
      · have HE := Lib.hid (show okFrom (-1) l = false from by rw [HST.out, decide_eq_false (show ¬ last < pn by omega)]; rfl)
        go_wp2_with fail
        go_ret
        exact .inl ⟨HE.out, rfl, by rw [HW3.out]; exact HBL.out.trans (HB3.out.mono hwz)⟩
      by_cases h2 : 99 < pn
      · have HE := Lib.hid (show okFrom (-1) l = false from by rw [HST.out, decide_eq_false (show ¬ pn ≤ 99 by omega)]; simp)
        go_wp2_with fail
        go_ret
        exact .inl ⟨HE.out, rfl, by rw [HW3.out]; exact HBL.out.trans (HB3.out.mono hwz)⟩
      obtain ⟨q, rfl⟩ : ∃ q : Nat, pn = (q : Int) := ⟨pn.toNat, by omega⟩
      have hq : q < 100 := by omega
      cases hm : mayT t with
      | false =>
        have HE := Lib.hid (show okFrom (-1) l = false from by rw [HST.out, hm]; simp)
        rw [hm] at HMAY
        clear hm
        go_wp2_with fail
        rw [HW3.out]
        refine HMAY.out.mono ?_
        rintro e w4 ⟨rfl, hb4⟩
        have HB4 := Lib.hid hb4
        clear hb4
        go_wp2_with fail
        go_ret
        exact .inl ⟨HE.out, rfl, (HBL.out.trans (HB3.out.mono hwz)).trans (HB4.out.mono (Nat.le_trans hwz HB3.out.size))⟩
      | true =>
        have HE := Lib.hid (show okFrom (-1) l = okFrom (q : Int) (l.drop (i + 1)) from by rw [HST.out, hm, decide_eq_true (show last < (q : Int) by omega), decide_eq_true (show (q : Int) ≤ 99 by omega)]; rfl)
        rw [hm] at HMAY
        clear hm
        go_wp2_with fail
        rw [HW3.out]
        refine HMAY.out.mono ?_
        rintro e w4 ⟨rfl, hb4⟩
        have HB4 := Lib.hid hb4
        have hbx4 := HBX.out.below hb4 HBX.out.lt
        have z0 : w4.cell? ⟨wr.heap.size, 0, none⟩ = some (.int .i64 (q : Int)) := (hbx4.cell 0).trans rfl
        have HBX4 := Lib.hid hbx4
        have HBD4 := Lib.hid ((HBD.out.later HB3.out).later hb4)
        have HADD := Lib.hid (show Calls Try.prog 57 #[.pointer (some ⟨w.heap.size, 0, none⟩), .int .i64 (q : Int)] w4.drew fun e w' => e = .returned (.tuple #[]) ∧ BdJ w' w.heap.size N (bfold (l.take i)) q ∧ Keep (fun k => k = w.heap.size) w4.drew w' ∧ w'.heap.size = w4.drew.heap.size from (HBD4.out.later (bdrew_any (Below.refl _ _))).add hq)
        clear hb4 hbx4
        go_wp2_with fail
        go_region_with (go_at_call 57; refine HADD.out.mono ?_; rintro e w5 ⟨rfl, hj5, hk5, hz5⟩)
        have hgw : w.heap.size < wr.heap.size := HBD.out.lt
        have hne : wr.heap.size ≠ w.heap.size := by omega
        have hne2 : w.heap.size ≠ wr.heap.size := by omega
        have hbx5 : Blk w5 wr.heap.size 35 #[.int .i64 (q : Int), .int .i64 t.k, .int .i64 t.n, .string t.s, .slice A' t.l.length c'] := (HBX4.out.drew).keep hk5 hne
        have y0 : w5.cell? ⟨wr.heap.size, 0, none⟩ = some (.int .i64 (q : Int)) := (hbx5.cell 0).trans rfl
        have y1 : w5.cell? ⟨wr.heap.size, 1, none⟩ = some (.int .i64 t.k) := (hbx5.cell 1).trans rfl
        have y2 : w5.cell? ⟨wr.heap.size, 2, none⟩ = some (.int .i64 t.n) := (hbx5.cell 2).trans rfl
        have y3 : w5.cell? ⟨wr.heap.size, 3, none⟩ = some (.string t.s) := (hbx5.cell 3).trans rfl
        have y4 : w5.cell? ⟨wr.heap.size, 4, none⟩ = some (.slice A' t.l.length c') := (hbx5.cell 4).trans rfl
        obtain ⟨_, _, _, _, _, _, ⟨s0, s1, s2, s3⟩, ⟨f0, f1, f2, f3⟩, _, _⟩ := hj5.2.2 q hq
        have hb45 : Below w.heap.size w4 w5 := by
          have h1 : Below w.heap.size w4.drew w5 := hk5.to_below (by have := HBX4.out.lt; show w.heap.size ≤ w4.heap.size; omega) (fun j _ e => by omega)
          exact ⟨h1.os, h1.tape, h1.output, h1.size, h1.block⟩
        have hw5 : Below w.heap.size w w5 := ((HBL.out.trans (HB3.out.mono hwz)).trans (HB4.out.mono (Nat.le_trans hwz HB3.out.size))).trans hb45
        have HJ5 := Lib.hid (hj5.put hq (show TAt w5 (· < N) t (.agg #[.int .i64 t.k, .int .i64 t.n, .string t.s, .slice A' t.l.length c']) from
          ((HTA.out.keep (w' := w4) (fun p hp => ((HB3.out.trans (HB4.out.mono HB3.out.size)).cell (by have : p.block < N := hp; omega)))).keep (fun p hp => hb45.cell (by have : p.block < N := hp; omega)))) HND.out)
        have HW5 := Lib.hid hw5
        clear hj5 hk5 hz5 hbx5 hb45 hw5 HADD HBD4 z0
        go_wp2_with fail
        have HF := Lib.hid (show BdI ((put4at w5 w.heap.size (2 + q * 4) (.int .i64 t.k) (.int .i64 t.n) (.string t.s) (.slice A' t.l.length c')).drew) w.heap.size N (bfold (l.take (i + 1))) ∧ Below w.heap.size w ((put4at w5 w.heap.size (2 + q * 4) (.int .i64 t.k) (.int .i64 t.n) (.string t.s) (.slice A' t.l.length c')).drew) from by
          refine ⟨?_, ?_⟩
          · rw [HTK.out]
            exact HJ5.out.later (bdrew_any (Below.refl _ _))
          · exact bdrew_any ((put4at_keeps _ _ _ _ _ _ _).below HW5.out HW5.out.size (fun j hj e => by omega)))
        go_region
        go_wp2_with fail
        go_roundw
        case rel => exact ⟨i + 1, q, by omega, by go_num, rfl, HE.out, by omega, by omega, HF.out.1, HF.out.2⟩
        case measure => simp [intOf]; omega
    · obtain rfl : i = l.length := by omega
      have HE := Lib.hid (show okFrom (-1) l = true from by rw [hok, List.drop_length]; rfl)
      have HE2 := Lib.hid (show BdI wr w.heap.size N (bfold l) from by rw [List.take_length] at hbd; exact hbd)
      clear hok hbd hbl
      go_wp2_with fail
      go_ret
      exact .inr ⟨HE.out, rfl, HE2.out, HBL.out⟩
end Go.Proofs.Ytlaplakaifmpeaa.Pt
