/- The law PatternMatches returns true: with which bindings a pattern matches a term, some first, is told as the document says. -/
import Derived.Test.YtlaplakaifmpeaaPatAwake
import Derived.Test.YtlaplakaifmpeaaPatLarge
import Derived.Test.YtlaplakaifmpeaaPatRefMo
import Derived.Test.YtlaplakaifmpeaaOverTm
import Derived.Test.YtlaplakaifmpeaaOpenBs
namespace Go.Proofs.Ytlaplakaifmpeaa.PatternMatches
open Go.RowKit K Pt
open Go.ChangeShapes Go.WideShapes Go.ChangeAt
set_option linter.unusedVariables false
set_option linter.unusedSimpArgs false

theorem ovr_below {F : Nat → Prop} {N : Nat} {w w' : World} (h : Ovr F w w') (hN : N ≤ w.heap.size) (hF : ∀ b, F b → N ≤ b) : Below N w w' := h.1.to_below hN (fun j hj hj2 => by have := hF j hj2; omega)
theorem more_uni {w w' : World} {o : Option (List Bnd)} {e : Ending} (h : MorePost w o e w') : ∃ A c, e = .returned (.tuple #[.slice A (o.getD []).length c, .bool o.isSome]) ∧ BRow w' w.heap.size (.slice A (o.getD []).length c) (o.getD []) ∧ Below w.heap.size w w' := by
  obtain ⟨hb, ⟨rfl, rfl⟩ | ⟨L, A, c, rfl, rfl, h1⟩⟩ := h
  · exact ⟨none, 0, rfl, BRow.none_ _ _, hb⟩
  · exact ⟨A, c, rfl, h1, hb⟩
theorem rmore_uni {w w' : World} {o : Option (List Bnd)} {e : Ending} (h : RMorePost w o e w') : ∃ A c, e = .returned (.tuple #[.slice A (o.getD []).length c, .bool o.isSome]) ∧ BsAt w' (· < w'.heap.size) A (o.getD []) ∧ Below w.heap.size w w' := by
  obtain ⟨hb, ⟨rfl, rfl⟩ | ⟨L, A, c, rfl, rfl, h1⟩⟩ := h
  · exact ⟨none, 0, rfl, fun i q h => by simp at h, hb⟩
  · exact ⟨A, c, rfl, h1.bc.2.1, hb⟩
/-- The terms of a slice of bindings may be written over, in blocks G that are not the slice's. -/
def Overs (w : World) (G : Nat → Prop) (A : Option Addr) (l : List Bnd) : Prop := ∀ i, i < l.length → ∃ (g : Nat) (k m : Int) (s : ByteArray) (A1 : Option Addr) (n c : Nat), A = some ⟨g, 0, none⟩ ∧ ¬ G g ∧ g < w.heap.size ∧
  (w.cell? ⟨g, i * 5 + 1, none⟩ = some (.int .i64 k) ∧ w.cell? ⟨g, i * 5 + 1 + 1, none⟩ = some (.int .i64 m) ∧ w.cell? ⟨g, i * 5 + 1 + 2, none⟩ = some (.string s) ∧ w.cell? ⟨g, i * 5 + 1 + 3, none⟩ = some (.slice A1 n c)) ∧ Wk w G LV (.agg #[.int .i64 k, .int .i64 m, .string s, .slice A1 n c])
theorem overs_of {w w' : World} {G : Nat → Prop} {l : List Bnd} {xs : List Value} {B : Nat} {A : Option Addr} {c : Nat} (h1 : BVs w G l xs) (h2 : ∀ b, G b → b < w.heap.size ∧ B ≤ b ∧ (Value.slice A l.length c).ownBlock ≠ some b) (h3 : w.ownsRow B 35 5 (.slice A l.length c) l.length xs) (hb : Below w.heap.size w w') : Overs w' G A l := fun i hi => by
  obtain ⟨p, hp⟩ : ∃ p, l[i]? = some p := ⟨_, List.getElem?_eq_getElem hi⟩
  obtain ⟨k, m, s, A1, len, c1, x0, x1, x2, x3, x4, ht, hw⟩ := h1.at_ hp
  obtain ⟨g, cap, he, hg1, hg2⟩ := h3.form (by omega)
  have hA : A = some ⟨g, 0, none⟩ := by injection he
  subst hA
  have hc := h3.cells (g := g) rfl
  have q1 := hc _ _ x1
  have q2 := hc _ _ x2
  have q3 := hc _ _ x3
  have q4 := hc _ _ x4
  rw [add_plain'] at q1 q2 q3 q4
  simp only [Nat.zero_add] at q1 q2 q3 q4
  exact ⟨g, k, m, s, A1, len, c1, rfl, fun h => (h2 g h).2.2 rfl, Nat.lt_of_lt_of_le hg2 hb.size, ⟨(hb.cell (p := ⟨g, _, none⟩) hg2).trans q1, (hb.cell (p := ⟨g, _, none⟩) hg2).trans q2, (hb.cell (p := ⟨g, _, none⟩) hg2).trans q3, (hb.cell (p := ⟨g, _, none⟩) hg2).trans q4⟩, hw.later hb⟩
theorem Overs.keep {w w' : World} {F G : Nat → Prop} {A : Option Addr} {c9 : Nat} {l : List Bnd} (h : Overs w G A l) (hk : Keep F w w') (hG : ∀ b, G b → ¬ F b) (hA : ∀ b, (Value.slice A l.length c9).ownBlock = some b → ¬ F b) : Overs w' G A l := fun i hi => by
  obtain ⟨g, k, m, s, A1, n, c, rfl, h1, h2, ⟨c0, c1, c2, c3⟩, hw⟩ := h i hi
  have hn := hA g rfl
  exact ⟨g, k, m, s, A1, n, c, rfl, h1, Nat.lt_of_lt_of_le h2 hk.size, ⟨(hk.cell (p := ⟨g, _, none⟩) h2 hn).trans c0, (hk.cell (p := ⟨g, _, none⟩) h2 hn).trans c1, (hk.cell (p := ⟨g, _, none⟩) h2 hn).trans c2, (hk.cell (p := ⟨g, _, none⟩) h2 hn).trans c3⟩, hw.keep hk hG⟩
theorem Overs.at_ {w w' : World} {G : Nat → Prop} {A : Option Addr} {l : List Bnd} (h : Overs w G A l) (ho : Ovr G w w') {i : Nat} (hi : i < l.length) : ∃ (g : Nat) (k m : Int) (s : ByteArray) (A1 : Option Addr) (n c : Nat), A = some ⟨g, 0, none⟩ ∧
    (w'.cell? ⟨g, i * 5 + 1, none⟩ = some (.int .i64 k) ∧ w'.cell? ⟨g, i * 5 + 1 + 1, none⟩ = some (.int .i64 m) ∧ w'.cell? ⟨g, i * 5 + 1 + 2, none⟩ = some (.string s) ∧ w'.cell? ⟨g, i * 5 + 1 + 3, none⟩ = some (.slice A1 n c)) ∧ Wk w' G LV (.agg #[.int .i64 k, .int .i64 m, .string s, .slice A1 n c]) := by
  obtain ⟨g, k, m, s, A1, n, c, rfl, h1, h2, ⟨c0, c1, c2, c3⟩, hw⟩ := h i hi
  exact ⟨g, k, m, s, A1, n, c, rfl, ⟨(ho.1.cell (p := ⟨g, _, none⟩) h2 h1).trans c0, (ho.1.cell (p := ⟨g, _, none⟩) h2 h1).trans c1, (ho.1.cell (p := ⟨g, _, none⟩) h2 h1).trans c2, (ho.1.cell (p := ⟨g, _, none⟩) h2 h1).trans c3⟩, ho.2 _ _ hw⟩
set_option maxRecDepth 100000 in
set_option maxHeartbeats 32000000 in
theorem walk (p t : Tm) (bs : List Bnd) (vp vt : Value) (A : Option Addr) (c : Nat) (w : World) (hp : TA w p vp) (ht : TA w t vt) (hbs : BcAt w A c bs) : Calls Try.prog 3 #[vp, vt, .slice A bs.length c] w fun e w' => e = .returned (.bool true) ∧ Below w.heap.size w w' := by
  have hp0 := hp
  have ht0 := ht
  obtain ⟨k0, n0, s, l, Ap, cp, hpe, rfl, okp, hlp⟩ := hp.open_
  obtain ⟨k1, n1, s1, l1, At, ct, hte, rfl, okt, hlt⟩ := ht.open_
  obtain ⟨W2, hW2⟩ : ∃ W2, (w.alloc (.cells #[.int .i64 k0, .int .i64 n0, .string s, .slice Ap l.length cp] 24)).alloc (.cells #[.int .i64 k1, .int .i64 n1, .string s1, .slice At l1.length ct] 24) = W2 := ⟨_, rfl⟩
  have hb2 : Below w.heap.size w W2 := by rw [← hW2]; exact ballocs (ballocs (Below.refl _ _) _) _
  have hgp : Blk W2 w.heap.size 24 #[.int .i64 k0, .int .i64 n0, .string s, .slice Ap l.length cp] := by rw [← hW2]; exact (Blk.new _ _ _).alloc _
  have hgt : Blk W2 (w.heap.size + 1) 24 #[.int .i64 k1, .int .i64 n1, .string s1, .slice At l1.length ct] := by
    rw [← hW2]
    have := Blk.new (w.alloc (.cells #[.int .i64 k0, .int .i64 n0, .string s, .slice Ap l.length cp] 24)) 24 #[.int .i64 k1, .int .i64 n1, .string s1, .slice At l1.length ct]
    simp only [World.size_alloc] at this
    exact this
  have HP := Lib.hid (TA.later hp0 hb2)
  have HT := Lib.hid (TA.later ht0 hb2)
  have HB2 := Lib.hid hb2; have HGP := Lib.hid hgp; have HGT := Lib.hid hgt; have HW2 := Lib.hid hW2
  have HBS := Lib.hid (hbs.later hb2)
  have HPE := Lib.hid hpe
  have HTE := Lib.hid hte
  have hlm : bs.length ≤ maxLen := Nat.le_trans hbs.2.1 hbs.2.2
  clear hp hp0 ht ht0 okp hlp okt hlt hb2 hgp hgt hW2 hbs hpe hte
  obtain ⟨p0, p1, p2, p3, _, _, _, _⟩ := HGP.out.four
  obtain ⟨t0, t1, t2, t3, _, _, _, _⟩ := HGT.out.four
  go_enter Try.func3, Try.ntmps3
  go_wp2_with fail
  rw [HW2.out]
  have hz2 : W2.heap.size = w.heap.size + 1 + 1 := by rw [← HW2.out]; simp
  have hrow := lit2 (show TAt W2 (· < W2.heap.size) p _ from HP.out) (show TAt W2 (· < W2.heap.size) t _ from HT.out) (fun b h => h)
  obtain ⟨W4, hW4⟩ : ∃ W4, W2.alloc (.cells #[.int .i64 k0, .int .i64 n0, .string s, .slice Ap l.length cp, .int .i64 k1, .int .i64 n1, .string s1, .slice At l1.length ct] 24) = W4 := ⟨_, rfl⟩
  have hb4 : Below W2.heap.size W2 W4 := by rw [← hW4]; exact ballocs (Below.refl _ _) _
  have HLA := Lib.hid (large_any [p, t] bs (some ⟨W2.heap.size, 0, none⟩) A 2 c W4 (by rw [← hW4]; exact hrow.mono (fun b hb => by rw [World.size_alloc]; omega)) (HBS.out.later hb4).1 (by simp [maxLen]) hlm)
  simp only [List.length_cons, List.length_nil, Nat.zero_add, Nat.reduceAdd] at HLA
  rw [hz2] at HLA
  rw [hW4]
  clear hrow hW4 p0 p1 p2 p3 t0 t1 t2 t3 hz2
  refine HLA.out.mono ?_
  rintro e w5 ⟨⟨r, rfl, hr⟩, hb5⟩
  have hb35 : Below W2.heap.size W2 w5 := bnext hb4 hb5
  have HB5 := Lib.hid (bnext HB2.out hb35)
  have HP5 := Lib.hid (HP.out.later hb35)
  have HT5 := Lib.hid (HT.out.later hb35)
  have HBS5 := Lib.hid (HBS.out.later hb35)
  have HGP5 := Lib.hid (HGP.out.below hb35 HGP.out.lt)
  have HGT5 := Lib.hid (HGT.out.below hb35 HGT.out.lt)
  have HR := Lib.hid hr
  clear hb4 hb5 hb35 HLA hr
  cases r with
  | true =>
    go_wp2_with fail
    go_ret
    exact ⟨ret1_b rfl, HB5.out⟩
  | false =>
    obtain ⟨hnp0, hnb0, hbl⟩ := HR.out rfl
    have hnp : nodes p ≤ 1048576 := by have := hnp0 p (by simp); omega
    have hnt : nodes t ≤ 1048576 := by have := hnp0 t (by simp); omega
    have HNP := Lib.hid hnp
    have HNT := Lib.hid hnt
    have HNB := Lib.hid (show ∀ q ∈ bs, nodes q.2 ≤ 1048576 from fun q hq => by have := hnb0 q hq; omega)
    have hbl2 : bs.length ≤ 65536 := by omega
    clear HR hnp0 hnp hnt hnb0
    obtain ⟨p0, p1, p2, p3, _, _, _, _⟩ := HGP5.out.four
    obtain ⟨t0, t1, t2, t3, _, _, _, _⟩ := HGT5.out.four
    go_wp2_with fail
    have hundef : ∀ k, undef ≠ ptr k := fun k h => by cases h
    refine wp_region_by (by kernel_rfl) (by kernel_rfl) (fun L a' wx => ∃ x7 x8 x9 x25 x26 x27 x28 x29 x30, a' = { tmps := #[Value.agg #[Value.int IntKind.i64 k0, Value.int IntKind.i64 n0, Value.string s, Value.slice Ap l.length cp], Value.agg #[Value.int IntKind.i64 k1, Value.int IntKind.i64 n1, Value.string s1, Value.slice At l1.length ct], Value.slice A bs.length c, Value.pointer (some { block := w.heap.size, off := 0 }), Value.pointer (some { block := w.heap.size + 1, off := 0 }), undef, Value.bool false, x7, x8, x9, undef, undef, undef, undef, undef, undef, undef, undef, undef, undef, Value.agg #[Value.int IntKind.i64 k0, Value.int IntKind.i64 n0, Value.string s, Value.slice Ap l.length cp], Value.agg #[Value.int IntKind.i64 k1, Value.int IntKind.i64 n1, Value.string s1, Value.slice At l1.length ct], Value.slice (some { block := w.heap.size + 1 + 1, off := 0 }) 2 2, Value.slice A bs.length c, Value.bool false, x25, x26, x27, x28, x29, x30, undef, undef, undef, undef, undef, undef, undef, undef, undef, undef, undef, undef, undef, undef, undef, undef, undef, undef, undef, undef, undef, undef, undef, undef, undef, undef, undef, undef, undef, undef, undef, undef, undef, undef, undef, undef, undef, undef, undef, undef, undef, undef, undef, undef, undef, undef, undef, undef, undef, undef, undef, undef, undef, undef, undef, undef, undef, undef, undef, undef, undef, undef, undef, undef, undef, undef, undef, undef, undef, undef, undef, undef, undef, undef, undef, undef, undef, undef, undef, undef, undef, undef, undef, undef, undef, undef], defers := [] } ∧ Below w5.heap.size w5 wx ∧ (L 0 = true → x25 = .agg #[.int .i64 k0, .int .i64 n0, .string s, .slice Ap l.length cp]) ∧ (L 2 = true → x27 = .agg #[.int .i64 k1, .int .i64 n1, .string s1, .slice At l1.length ct]) ∧ (L 4 = true → x29 = .slice A bs.length c) ∧ Half w5.heap.size p (L 1) (L 6) (L 8) x26 x7 x8 wx ∧ Half w5.heap.size t (L 3) (L 7) (L 9) x28 x8 x7 wx ∧ Third w5.heap.size bs (L 5) x30 x7 x8 wx ∧ (L 10 = true → L 5 = true ∧ x9 = x30)) ?_ ?_ ?_
    rotate_left 2
    · rintro i o ho L a' wx ⟨x7, x8, x9, x25, x26, x27, x28, x29, x30, rfl, hb, h25, h27, h29, h7, h8, h30, h9⟩ hi hdep K hK
      rcases i with _ | _ | _ | _ | _ | _ | _ | _ | _ | _ | _ | i
      · obtain rfl := Option.some.inj ho
        obtain ⟨a0, a1, a2, a3, _, _, _, _⟩ := (HGP5.out.below hb HGP5.out.lt).four
        go_simp
        exact hK _ _ ⟨x7, x8, x9, _, x26, x27, x28, x29, x30, rfl, hb, fun _ => rfl, by simpa [upto] using h27, by simpa [upto] using h29, by simpa [upto] using h7, by simpa [upto] using h8, by simpa [upto] using h30, by simpa [upto] using h9⟩
      · obtain rfl := Option.some.inj ho
        obtain rfl := h25 (hdep ⟨0, .data⟩ (by simp) rfl)
        rw [hi] at h7
        go_simp
        refine (copyTerm_any p HNP.out _ wx (HP5.out.later hb)).mono ?_
        rintro e w4 ⟨v4, rfl, ht4, hb4⟩
        exact hK _ _ ⟨x7, x8, x9, _, v4, x27, x28, x29, x30, rfl, bnext hb hb4, fun _ => rfl, by simpa [upto] using h27, by simpa [upto] using h29, by simpa [upto] using h7.call hb.size h8.lt hb4 ht4, by simpa [upto] using h8.later hb4, by simpa [upto] using h30.later hb4, by simpa [upto] using h9⟩
      · obtain rfl := Option.some.inj ho
        obtain ⟨a0, a1, a2, a3, _, _, _, _⟩ := (HGT5.out.below hb HGT5.out.lt).four
        go_simp
        exact hK _ _ ⟨x7, x8, x9, x25, x26, _, x28, x29, x30, rfl, hb, by simpa [upto] using h25, fun _ => rfl, by simpa [upto] using h29, by simpa [upto] using h7, by simpa [upto] using h8, by simpa [upto] using h30, by simpa [upto] using h9⟩
      · obtain rfl := Option.some.inj ho
        obtain rfl := h27 (hdep ⟨2, .data⟩ (by simp) rfl)
        rw [hi] at h8
        go_simp
        refine (copyTerm_any t HNT.out _ wx (HT5.out.later hb)).mono ?_
        rintro e w4 ⟨v4, rfl, ht4, hb4⟩
        exact hK _ _ ⟨x7, x8, x9, x25, x26, _, v4, x29, x30, rfl, bnext hb hb4, by simpa [upto] using h25, fun _ => rfl, by simpa [upto] using h29, by simpa [upto] using h7.later hb4, by simpa [upto] using h8.call hb.size h7.lt hb4 ht4, by simpa [upto] using h30.later hb4, by simpa [upto] using h9⟩
      · obtain rfl := Option.some.inj ho
        go_simp
        exact hK _ _ ⟨x7, x8, x9, x25, x26, x27, x28, _, x30, rfl, hb, by simpa [upto] using h25, by simpa [upto] using h27, fun _ => rfl, by simpa [upto] using h7, by simpa [upto] using h8, by simpa [upto] using h30, by simpa [upto] using h9⟩
      · obtain rfl := Option.some.inj ho
        obtain rfl := h29 (hdep ⟨4, .data⟩ (by simp) rfl)
        go_simp
        refine (copied_any bs A c wx (HBS5.out.later hb).1 hbl2 HNB.out).mono ?_
        rintro e w4 ⟨A7, c7, rfl, hrow7, hb4⟩
        exact hK _ _ ⟨x7, x8, x9, x25, x26, x27, x28, _, .slice A7 bs.length c7, rfl, bnext hb hb4, by simpa [upto] using h25, by simpa [upto] using h27, fun _ => rfl, by simpa [upto] using h7.later hb4, by simpa [upto] using h8.later hb4, by simpa [upto] using Third.call hb.size h7.lt h8.lt hrow7, fun h => absurd (h9 (by simpa [upto] using h)).1 (by rw [hi]; simp)⟩
      · obtain rfl := Option.some.inj ho
        rw [hi] at h7
        go_simp
        exact hK _ _ ⟨_, x8, x9, x25, x26, x27, x28, x29, x30, rfl, ballocs hb _, by simpa [upto] using h25, by simpa [upto] using h27, by simpa [upto] using h29, by simpa [upto] using h7.mine hb.size h8.lt, by simpa [upto] using h8.other _, by simpa [upto] using h30.box1 _, by simpa [upto] using h9⟩
      · obtain rfl := Option.some.inj ho
        rw [hi] at h8
        go_simp
        exact hK _ _ ⟨x7, _, x9, x25, x26, x27, x28, x29, x30, rfl, ballocs hb _, by simpa [upto] using h25, by simpa [upto] using h27, by simpa [upto] using h29, by simpa [upto] using h7.other _, by simpa [upto] using h8.mine hb.size h7.lt, by simpa [upto] using h30.box2 _, by simpa [upto] using h9⟩
      · obtain rfl := Option.some.inj ho
        have d1 := hdep ⟨1, .data⟩ (by simp) rfl
        have d4 := hdep ⟨6, .data⟩ (by simp) rfl
        rw [d1, d4] at h7
        obtain ⟨A4, c4, rfl, _⟩ := h7.told rfl
        obtain ⟨g, rfl, hg1, _, _, y0, y1, y2, y3, hg2, _⟩ := h7.box rfl
        obtain ⟨a0, a1, a2, a3, f0, f1, f2, f3⟩ := hg2.four
        unfold tv at h7
        dsimp only [tv]
        go_simp
        exact hK _ _ ⟨_, x8, x9, x25, _, x27, x28, x29, x30, rfl, put4_below hb hg1 _ _ _ _, by simpa [upto] using h25, by simpa [upto] using h27, by simpa [upto] using h29, by simpa [upto, d1, d4, put4] using h7.put, by simpa [upto, put4] using h8.aside, by simpa [upto, put4] using h30.put1, by simpa [upto] using h9⟩
      · obtain rfl := Option.some.inj ho
        have d1 := hdep ⟨3, .data⟩ (by simp) rfl
        have d4 := hdep ⟨7, .data⟩ (by simp) rfl
        rw [d1, d4] at h8
        obtain ⟨A4, c4, rfl, _⟩ := h8.told rfl
        obtain ⟨g, rfl, hg1, _, _, y0, y1, y2, y3, hg2, _⟩ := h8.box rfl
        obtain ⟨a0, a1, a2, a3, f0, f1, f2, f3⟩ := hg2.four
        unfold tv at h8
        dsimp only [tv]
        go_simp
        exact hK _ _ ⟨x7, _, x9, x25, x26, x27, _, x29, x30, rfl, put4_below hb hg1 _ _ _ _, by simpa [upto] using h25, by simpa [upto] using h27, by simpa [upto] using h29, by simpa [upto, put4] using h7.aside, by simpa [upto, d1, d4, put4] using h8.put, by simpa [upto, put4] using h30.put2, by simpa [upto] using h9⟩
      · obtain rfl := Option.some.inj ho
        have H5T := Lib.hid (hdep ⟨5, .data⟩ (by simp) rfl)
        go_simp
        exact hK _ _ ⟨x7, x8, _, x25, x26, x27, x28, x29, x30, rfl, hb, by simpa [upto] using h25, by simpa [upto] using h27, by simpa [upto] using h29, by simpa [upto] using h7, by simpa [upto] using h8, by simpa [upto] using h30, fun _ => ⟨by simpa [upto] using H5T.out, rfl⟩⟩
      · simp at ho
    · exact ⟨undef, undef, undef, undef, undef, undef, undef, undef, undef, rfl, btodrew (Below.refl _ _), nofun, nofun, nofun, Half.start _ _ _ hundef, Half.start _ _ _ hundef, Third.start _ _ _, nofun⟩
    rintro L a' w8 ⟨x7, x8, x9, x25, x26, x27, x28, x29, x30, rfl, hb, h25, h27, h29, h7, h8, h30, h9⟩ hL
    have e1 := hL 1 (by decide); have e2 := hL 3 (by decide); have e3 := hL 6 (by decide); have e4 := hL 7 (by decide); have e5 := hL 8 (by decide); have e6 := hL 9 (by decide); have e7 := hL 5 (by decide)
    rw [e1, e3, e5] at h7
    rw [e2, e4, e6] at h8
    rw [e7] at h30
    obtain rfl := h25 (hL 0 (by decide))
    obtain rfl := h27 (hL 2 (by decide))
    obtain rfl := h29 (hL 4 (by decide))
    obtain ⟨_, rfl⟩ := h9 (hL 10 (by decide))
    obtain ⟨g7, A3, c3, rfl, hg7, rfl, q7, ta7⟩ := h7.done
    obtain ⟨g8, A4, c4, rfl, hg8, rfl, q8, ta8⟩ := h8.done
    obtain ⟨A7, c7, rfl, hbs7, hl7, hm7⟩ := h30 rfl
    have hpv : tv p A3 c3 = .agg #[.int .i64 k0, .int .i64 n0, .string s, .slice A3 l.length c3] := by rw [HPE.out]; rfl
    have htv : tv t A4 c4 = .agg #[.int .i64 k1, .int .i64 n1, .string s1, .slice A4 l1.length c4] := by rw [HTE.out]; rfl
    have hpq : (#[.int .i64 p.k, .int .i64 p.n, .string p.s, .slice A3 p.l.length c3] : Array Value) = #[.int .i64 k0, .int .i64 n0, .string s, .slice A3 l.length c3] := by rw [HPE.out]; rfl
    have htq : (#[.int .i64 t.k, .int .i64 t.n, .string t.s, .slice A4 t.l.length c4] : Array Value) = #[.int .i64 k1, .int .i64 n1, .string s1, .slice A4 l1.length c4] := by rw [HTE.out]; rfl
    rw [hpv] at ta7 ⊢
    rw [htv] at ta8 ⊢
    rw [hpq] at q7
    rw [htq] at q8
    have HB8 := Lib.hid (bnext HB5.out hb)
    have HP8 := Lib.hid (HP5.out.later hb)
    have HT8 := Lib.hid (HT5.out.later hb)
    have HBS8 := Lib.hid (HBS5.out.later hb)
    have HGP8 := Lib.hid (HGP5.out.below hb HGP5.out.lt)
    have HGT8 := Lib.hid (HGT5.out.below hb HGT5.out.lt)
    have HX8 := Lib.hid ta7
    have HY8 := Lib.hid ta8
    have HGX8 := Lib.hid q7
    have HGY8 := Lib.hid q8
    have HC8 := Lib.hid (show BcAt w8 A7 c7 bs from ⟨hbs7.mono fun b hb => hb.2.1, hl7, hm7⟩)
    clear h7 h8 h30 h9 hb h25 h27 h29 ta7 ta8 q7 q8 hL e1 e2 e3 e4 e5 e6 e7 hpv htv hpq htq hbs7 hl7 hm7 p0 p1 p2 p3 t0 t1 t2 t3 hg7 hg8
    obtain ⟨x0, x1, x2, x3, _, _, _, _⟩ := HGX8.out.four
    obtain ⟨y0, y1, y2, y3, _, _, _, _⟩ := HGY8.out.four
    obtain ⟨M, hM⟩ : ∃ M, (moreP p t bs).getD [] = M := ⟨_, rfl⟩
    obtain ⟨r, hr⟩ : ∃ r, (moreP p t bs).isSome = r := ⟨_, rfl⟩
    obtain ⟨Q, hQ⟩ : ∃ Q, (moreP p t []).getD [] = Q := ⟨_, rfl⟩
    obtain ⟨q, hq⟩ : ∃ q, (moreP p t []).isSome = q := ⟨_, rfl⟩
    go_wp2_with fail
    refine ((more_any p t bs _ _ A7 c7 w8 HX8.out HY8.out HC8.out.1 hlm HNP.out HNT.out HNB.out).mono fun e w' h => more_uni h).mono ?_
    rw [hM, hr]
    rintro e w9 ⟨Am, cm, rfl, ⟨G1, xs1, hv1, hG1, hR1⟩, hb9⟩
    have HV1 := Lib.hid hv1; have HG1 := Lib.hid hG1; have HR1 := Lib.hid hR1
    have hMm : M.length ≤ maxLen := by obtain ⟨_, _, e, h1, h2⟩ := ownsRow_form hR1; injection e with _ e _; omega
    have HB9 := Lib.hid hb9
    have HRD1 := Lib.hid (show BsAt w9 (· < w9.heap.size) Am M from (BRow.reads ⟨G1, xs1, hv1, hG1, hR1⟩).2.mono fun b hb => hb.2)
    clear hv1 hG1 hR1 hb9 x0 x1 x2 x3 y0 y1 y2 y3
    obtain ⟨p0, p1, p2, p3, _, _, _, _⟩ := (HGP8.out.below HB9.out HGP8.out.lt).four
    obtain ⟨t0, t1, t2, t3, _, _, _, _⟩ := (HGT8.out.below HB9.out HGT8.out.lt).four
    go_wp2_with fail
    refine ((rmore_any p t bs _ _ A c w9 (HP8.out.later HB9.out) (HT8.out.later HB9.out) (HBS8.out.later HB9.out) hbl2 HNP.out HNT.out HNB.out).mono fun e w' h => rmore_uni h).mono ?_
    rw [hM, hr]
    rintro e w10 ⟨An, cn, rfl, hrd10, hb10⟩
    have HN10 := Lib.hid hb10
    have HB10 := Lib.hid (bnext HB9.out hb10)
    have HRD10 := Lib.hid hrd10
    clear hb10 hrd10 p0 p1 p2 p3 t0 t1 t2 t3
    obtain ⟨x0, x1, x2, x3, _, _, _, _⟩ := (HGX8.out.below HB10.out HGX8.out.lt).four
    obtain ⟨y0, y1, y2, y3, _, _, _, _⟩ := (HGY8.out.below HB10.out HGY8.out.lt).four
    go_wp2_with fail
    refine ((pmatch_any p t _ _ w10 (HX8.out.later HB10.out) (HY8.out.later HB10.out) HNP.out HNT.out).mono fun e w' h => more_uni h).mono ?_
    rw [hQ, hq]
    rintro e w11 ⟨Aq, cq, rfl, ⟨G2, xs2, hv2, hG2, hR2⟩, hb11⟩
    have HV2 := Lib.hid hv2; have HG2 := Lib.hid hG2; have HR2 := Lib.hid hR2
    have hQm : Q.length ≤ maxLen := by obtain ⟨_, _, e, h1, h2⟩ := ownsRow_form hR2; injection e with _ e _; omega
    have HN11 := Lib.hid (bnext HN10.out hb11)
    have HB11 := Lib.hid (bnext HB10.out hb11)
    have HRD2 := Lib.hid (show BsAt w11 (· < w11.heap.size) Aq Q from (BRow.reads ⟨G2, xs2, hv2, hG2, hR2⟩).2.mono fun b hb => hb.2)
    have HRD11 := Lib.hid (HRD10.out.later hb11)
    clear hv2 hG2 hR2 hb11 x0 x1 x2 x3 y0 y1 y2 y3
    obtain ⟨p0, p1, p2, p3, _, _, _, _⟩ := (HGP8.out.below HB11.out HGP8.out.lt).four
    obtain ⟨t0, t1, t2, t3, _, _, _, _⟩ := (HGT8.out.below HB11.out HGT8.out.lt).four
    go_wp2_with fail
    refine ((rmatchP_any p t _ _ w11 (HP8.out.later HB11.out) (HT8.out.later HB11.out) HNP.out HNT.out).mono fun e w' h => rmore_uni h).mono ?_
    rw [hQ, hq]
    rintro e w12 ⟨Ar, cr, rfl, hrd12, hb12⟩
    have HN12 := Lib.hid (bnext HN11.out hb12)
    have HM12 := Lib.hid hb12
    have HB12 := Lib.hid (bnext HB11.out hb12)
    have HRD12 := Lib.hid hrd12
    have hrr : (r != r) = false := by simp
    have hqq : (q != q) = false := by simp
    clear hb12 hrd12 p0 p1 p2 p3 t0 t1 t2 t3
    go_wp2_with fail
    refine (sameBinds_any M M Am An cm cn _ (HRD1.out.later HN12.out) (HRD11.out.later HM12.out) hMm hMm).mono ?_
    rw [eqBs_iff.2 rfl]
    rintro e w13 ⟨rfl, hb13⟩
    have HN13 := Lib.hid (bnext HN12.out hb13)
    have HM13 := Lib.hid (bnext HM12.out hb13)
    have HB13 := Lib.hid (bnext HB12.out hb13)
    have HRD13 := Lib.hid (HRD12.out.later hb13)
    clear hb13
    go_wp2_with fail
    refine (sameBinds_any Q Q Aq Ar cq cr _ (HRD2.out.later HM13.out) HRD13.out hQm hQm).mono ?_
    rw [eqBs_iff.2 rfl]
    rintro e w14 ⟨rfl, hb14⟩
    have HN14 := Lib.hid (bnext HN13.out hb14)
    have HM14 := Lib.hid (bnext HM13.out hb14)
    have HB14 := Lib.hid (bnext HB13.out hb14)
    clear hb14
    have HO1 := Lib.hid (show Overs w14 G1 Am M from overs_of HV1.out HG1.out HR1.out HN14.out)
    have hs9 := HN14.out.size
    have hs11 := HM14.out.size
    have hs911 := HN11.out.size
    unfold maxLen at hMm hQm
    go_wp2_with fail
    go_loopw [18] (fun x wr => ∃ i : Nat, i ≤ M.length ∧ x = .int .i64 (i : Int) ∧ Ovr G1 w14 wr) (fun x _ => M.length - (intOf x).toNat)
    case atStart => exact ⟨0, Nat.zero_le _, rfl, Ovr.refl _ _⟩
    case round =>
      obtain ⟨i, hi, rfl, ho⟩ := hrel
      have HO := Lib.hid ho
      have hoz := ho.1.size
      by_cases hlt : i < M.length
      · obtain ⟨g, z0, z1, z2, z3, z4, z5, rfl, ⟨d0, d1, d2, d3⟩, hwk⟩ := HO1.out.at_ ho hlt
        have HOV := Lib.hid (overT_any LV _ wr G1 hwk (fun b hb => by have := (HG1.out b hb).1; omega))
        have hi0 : (0 : Int) ≤ (i : Int) := by omega
        have hil : (i : Int) < (M.length : Int) := by omega
        clear ho hwk
        go_wp2_with fail
        refine HOV.out.mono ?_
        rintro e w15 ⟨rfl, ho2⟩
        have HO2 := Lib.hid (HO.out.trans ho2)
        clear ho2 d0 d1 d2 d3
        go_wp2_with fail
        go_roundw
        case rel => exact ⟨i + 1, by omega, by go_num, HO2.out⟩
        case measure => simp [intOf]; omega
      · obtain rfl : i = M.length := by omega
        have HB15 := Lib.hid (show Below w8.heap.size w8 wr from HB14.out.trans (ovr_below ho HB14.out.size (fun b hb => (HG1.out b hb).2.1)))
        have HO3 := Lib.hid (show Overs wr G2 Aq Q from (overs_of HV2.out HG2.out HR2.out HM14.out).keep ho.1 (fun b hb hb2 => by have := (HG1.out b hb2).1; have := (HG2.out b hb).2.1; have := HN10.out.size; omega) (fun b hb hb2 => by have := (HG1.out b hb2).1; have := (HR2.out.lt b hb).1; have := HN10.out.size; omega))
        clear ho
        go_wp2_with fail
        go_loopw [19] (fun x wz => ∃ i : Nat, i ≤ Q.length ∧ x = .int .i64 (i : Int) ∧ Ovr G2 wr wz) (fun x _ => Q.length - (intOf x).toNat)
        case atStart => exact ⟨0, Nat.zero_le _, rfl, Ovr.refl _ _⟩
        case round =>
          rename_i wz
          obtain ⟨i, hi, rfl, ho⟩ := hrel
          have HO := Lib.hid ho
          have hoz2 := ho.1.size
          by_cases hlt : i < Q.length
          · obtain ⟨g, z0, z1, z2, z3, z4, z5, rfl, ⟨d0, d1, d2, d3⟩, hwk⟩ := HO3.out.at_ ho hlt
            have HOV := Lib.hid (overT_any LV _ _ G2 hwk (fun b hb => by have := (HG2.out b hb).1; omega))
            have hi0 : (0 : Int) ≤ (i : Int) := by omega
            have hil : (i : Int) < (Q.length : Int) := by omega
            clear ho hwk
            go_wp2_with fail
            refine HOV.out.mono ?_
            rintro e w15 ⟨rfl, ho2⟩
            have HO2 := Lib.hid (HO.out.trans ho2)
            clear ho2 d0 d1 d2 d3
            go_wp2_with fail
            go_roundw
            case rel => exact ⟨i + 1, by omega, by go_num, HO2.out⟩
            case measure => simp [intOf]; omega
          · obtain rfl : i = Q.length := by omega
            have HB16 := Lib.hid (HB15.out.trans (ovr_below ho HB15.out.size (fun b hb => by have := (HG2.out b hb).2.1; have := HB10.out.size; omega)))
            clear ho
            obtain ⟨p0, p1, p2, p3, _, _, _, _⟩ := (HGP8.out.below HB16.out HGP8.out.lt).four
            obtain ⟨x0, x1, x2, x3, _, _, _, _⟩ := (HGX8.out.below HB16.out HGX8.out.lt).four
            go_wp2_with fail
            refine (sameTerm_any p p _ _ _ (HX8.out.later HB16.out) (HP8.out.later HB16.out)).mono ?_
            rw [eqT_iff.2 rfl]
            rintro e w17 ⟨rfl, hb17⟩
            have HB17 := Lib.hid (bnext HB16.out hb17)
            clear hb17 p0 p1 p2 p3 x0 x1 x2 x3
            obtain ⟨t0, t1, t2, t3, _, _, _, _⟩ := (HGT8.out.below HB17.out HGT8.out.lt).four
            obtain ⟨y0, y1, y2, y3, _, _, _, _⟩ := (HGY8.out.below HB17.out HGY8.out.lt).four
            go_wp2_with fail
            refine (sameTerm_any t t _ _ _ (HY8.out.later HB17.out) (HT8.out.later HB17.out)).mono ?_
            rw [eqT_iff.2 rfl]
            rintro e w18 ⟨rfl, hb18⟩
            have HB18 := Lib.hid (bnext HB17.out hb18)
            clear hb18 t0 t1 t2 t3 y0 y1 y2 y3
            go_wp2_with fail
            refine (sameBinds_any bs bs A7 A c7 c _ (HC8.out.later HB18.out).1 (HBS8.out.later HB18.out).1 hlm hlm).mono ?_
            rw [eqBs_iff.2 rfl]
            rintro e w19 ⟨rfl, hb19⟩
            have HB19 := Lib.hid (bnext HB18.out hb19)
            clear hb19
            go_wp2_with fail
            refine (awake_any _).mono ?_
            rintro e w20 ⟨rfl, hb20⟩
            have HB20 := Lib.hid (bnext HB8.out (bnext HB19.out hb20))
            clear hb20
            go_wp2_with fail
            go_ret
            exact ⟨ret1_b rfl, HB20.out⟩
theorem contract {H : Type} {enc : TypeId × Value → H} (W : World) {base : Nat} {r r' r2 : Reach} {b b' b2 : Nat} {hd hd' hd2 : Bool} {v0 v1 v2 : Value} {d0 d1 d2 : DataW H} {p0 p1 p2 : List MemPlace}
    (o0 : Value.okWide Try.prog W r b 24 v0) (h0 : DataW.Trod enc Try.prog W base (fun _ => true) hd 24 v0 d0 p0) (o1 : Value.okWide Try.prog W r' b' 24 v1) (h1 : DataW.Trod enc Try.prog W base (fun _ => true) hd' 24 v1 d1 p1) (o2 : Value.okWide Try.prog W r2 b2 25 v2) (h2 : DataW.Trod enc Try.prog W base (fun _ => true) hd2 25 v2 d2 p2) {Q R : Prop} (_ : Q) (_ : R) :
    Calls Try.prog 3 #[v0, v1, v2] W fun e w' => e = .returned (.bool true) ∧ Below W.heap.size W w' := by
  obtain ⟨a, ha⟩ := open_t o0 h0
  obtain ⟨b, hb⟩ := open_t o1 h1
  obtain ⟨A, c, l, rfl, hl⟩ := open_bs o2 h2
  exact walk a b l v0 v1 A c W ha hb hl

theorem own : ownKnob Try.prog.godebug = none := by kernel_rfl
theorem laidOut : laidOutB Try.prog = true := by kernel_rfl
theorem readable : ∀ t ∈ Try.f3.params.toList, Try.prog.readableRec t = true ∧ t < Try.prog.types.size := by
  rw [show Try.f3.params = #[24, 24, 25] from Try.params3]
  intro t h
  simp only [List.mem_cons, List.not_mem_nil, or_false] at h
  rcases h with rfl | rfl | rfl
  · exact ⟨by kernel_rfl, of_decide_eq_true (by kernel_rfl)⟩
  · exact ⟨by kernel_rfl, of_decide_eq_true (by kernel_rfl)⟩
  · exact ⟨by kernel_rfl, of_decide_eq_true (by kernel_rfl)⟩
set_option maxRecDepth 100000 in
theorem lifted (os : Os) (started : os.Started) (H : Type) (enc : TypeId × Value → H) :
    ReturnsInHanded {} Try.checked os 3 .any (Rows.patternMatchesSpec.pre6 enc Try.prog Try.f3 Rows.patternMatchesRow.domain false) (Rows.patternMatchesSpec.post enc Try.prog Try.f3 false true false false) := by
  refine K.law_lift (C := Try.checked) (b := 4) own started (by kernel_rfl) Try.func3
    (ChangeSpec.witness6 (enc := enc) (C := Try.checked) false ⟨#[], #[.agg #[.int .i64 0, .int .i64 0, .string ⟨#[]⟩, .slice none 0 0], .agg #[.int .i64 0, .int .i64 0, .string ⟨#[]⟩, .slice none 0 0], .slice none 0 0], []⟩ 8 (by kernel_rfl) (by kernel_rfl) (by kernel_rfl) (by kernel_rfl)) laidOut readable rfl rfl Try.underlying4 ?_ ?_
  · intro ds hds
    rw [show Try.f3.params = #[24, 24, 25] from Try.params3] at hds
    match ds, hds with
    | [d0, d1, d2], _ => rfl
  · intro W base args ds p hval hA hlt hsz
    rw [show Try.checked.prog = Try.prog from rfl] at hval hA hsz
    rw [show Try.f3.params = #[24, 24, 25] from Try.params3] at hA hval hsz
    obtain ⟨v0, vs0, d0, ds0, p0, q0, hargs, rfl, rfl, h0, r0⟩ := trodAll_cons hA
    obtain ⟨v1, vs1, d1, ds1, p1, q1, rfl, rfl, rfl, h1, r1⟩ := trodAll_cons r0
    obtain ⟨v2, vs2, d2, ds2, p2, q2, rfl, rfl, rfl, h2, r2⟩ := trodAll_cons r1
    obtain ⟨rfl, rfl, rfl⟩ := trodAll_nil r2
    obtain rfl : args = #[v0, v1, v2] := by cases args; simp_all
    exact contract W (hval 0 24 v0 rfl rfl) h0 (hval 1 24 v1 rfl rfl) h1 (hval 2 25 v2 rfl rfl) h2 (fun x hx => hlt x hx) hsz

theorem over : Rows.patternMatchesRow.holds Try.pinned (OpenSpec.ofChange Rows.patternMatchesSpec) :=
  OpenClaim.holds_of_wide 3 Try.f3 rfl rfl rfl rfl rfl rfl rfl ⟨rfl, rfl, rfl, rfl, rfl⟩ rfl rfl rfl rfl rfl (by kernel_rfl) Try.func3 (by kernel_rfl)
    (of_decide_eq_true (by kernel_rfl)) (by unfold Func.isWrapper; rw [if_neg (of_decide_eq_false (by kernel_rfl))]; exact ⟨rfl, rfl⟩)
    (fun os started H enc _ => lifted os started H enc)

/-- THE STATEMENT -/
theorem proved : Rows.PatternMatchesSaid := over
#print axioms proved
end Go.Proofs.Ytlaplakaifmpeaa.PatternMatches
