/- tenureref16.More and Match, by contracts. 'x, y, c := f(p), f(t), copied(b)': what has been told of bindings, beside two terms that are stored. Plain facts. -/
import Derived.Test.YtlaplakaifmpeaaPatRefCp
import Derived.Test.YtlaplakaifmpeaaTold2
namespace Go.Proofs.Ytlaplakaifmpeaa.Pt
open Go.RowKit K Go.Shelf
set_option linter.unusedVariables false
set_option linter.unusedSimpArgs false
def RMorePost (w : World) (o : Option (List Bnd)) (e : Ending) (w' : World) : Prop :=
  Below w.heap.size w w' ∧ ((o = none ∧ e = .returned (.tuple #[.slice none 0 0, .bool false])) ∨ ∃ L A c, o = some L ∧ e = .returned (.tuple #[.slice A L.length c, .bool true]) ∧ BRr w' w.heap.size (.slice A L.length c) L)
theorem match_nodes {p t : Tm} {b b' : Bf} (h : matchF p t b = some b') (ht : nodes t ≤ 1048576) (hb : ∀ n u, b n = some u → nodes u ≤ 1048576) : ∀ q ∈ bl b' 100, nodes q.2 ≤ 1048576 := fun q hq => by
  obtain ⟨n, hn, he, _⟩ := bl_mem hq
  exact (mm (fun u => nodes u ≤ 1048576) (fun t ht u hu => by have := nodesL_mem hu; rw [nodes_eq] at ht; omega) p t b b' h ht).1.good hb n q.2 he
set_option maxRecDepth 100000 in
set_option maxHeartbeats 8000000 in
theorem rmore_any (p t : Tm) (l : List Bnd) (vp vt : Value) (A : Option Addr) (c : Nat) (w : World) (hp : TA w p vp) (ht : TA w t vt) (hl : BcAt w A c l) (hlm : l.length ≤ 65536) (hnp : nodes p ≤ 1048576) (hnt : nodes t ≤ 1048576) (hnl : ∀ q ∈ l, nodes q.2 ≤ 1048576) :
    Calls Try.prog 13 #[vp, vt, .slice A l.length c] w (RMorePost w (moreP p t l)) := by
  rw [← rmore_eq]
  have hp0 := hp
  have ht0 := ht
  obtain ⟨pk, pn, ps, pl, Ap, cp, hpe, rfl, okp, hlp⟩ := hp.open_
  obtain ⟨tk, tn, ts, tl, At, ct, hte, rfl, okt, hlt⟩ := ht.open_
  obtain ⟨W2, hW2⟩ : ∃ W2, (w.alloc (.cells #[.int .i64 pk, .int .i64 pn, .string ps, .slice Ap pl.length cp] 24)).alloc (.cells #[.int .i64 tk, .int .i64 tn, .string ts, .slice At tl.length ct] 24) = W2 := ⟨_, rfl⟩
  have hb2 : Below w.heap.size w W2 := by rw [← hW2]; exact ballocs (ballocs (Below.refl _ _) _) _
  have hgp : Blk W2 w.heap.size 24 #[.int .i64 pk, .int .i64 pn, .string ps, .slice Ap pl.length cp] := by rw [← hW2]; exact (Blk.new _ _ _).alloc _
  have hgt : Blk W2 (w.heap.size + 1) 24 #[.int .i64 tk, .int .i64 tn, .string ts, .slice At tl.length ct] := by
    rw [← hW2]
    have := Blk.new (w.alloc (.cells #[.int .i64 pk, .int .i64 pn, .string ps, .slice Ap pl.length cp] 24)) 24 #[.int .i64 tk, .int .i64 tn, .string ts, .slice At tl.length ct]
    simp only [World.size_alloc] at this
    exact this
  obtain ⟨P, hP⟩ : ∃ P, Tm.mk pk pn ps pl = P := ⟨_, rfl⟩
  obtain ⟨T, hT⟩ : ∃ T, Tm.mk tk tn ts tl = T := ⟨_, rfl⟩
  subst hpe hte
  rw [hP, hT] at *
  have HP := Lib.hid (TA.later hp0 hb2)
  have HT := Lib.hid (TA.later ht0 hb2)
  have HL := Lib.hid (hl.later hb2)
  have HB2 := Lib.hid hb2; have HGP := Lib.hid hgp; have HGT := Lib.hid hgt; have HW2 := Lib.hid hW2
  have HC1 := Lib.hid (rcheck_any P _ W2 HP.out hnp)
  obtain ⟨z, hz⟩ : ∃ z, chk P = z := ⟨_, rfl⟩
  obtain ⟨y, hy⟩ : ∃ y, chk T = y := ⟨_, rfl⟩
  have HMP := Lib.hid (show mayT P = decide (z = 0) from by unfold mayT; rw [hz])
  have HMT := Lib.hid (show mayT T = decide (y = 0) from by unfold mayT; rw [hy])
  have HC2 := Lib.hid (fun wx (hx : Below W2.heap.size W2 wx) => hy ▸ rcheck_any T _ wx (HT.out.later hx) hnt)
  have HC3 := Lib.hid (fun wx (hx : Below W2.heap.size W2 wx) => rmay_any l A c wx (HL.out.later hx).1 hlm hnl)
  have HNL := Lib.hid hnl; have HNT := Lib.hid hnt; have HNP := Lib.hid hnp
  rw [hz] at HC1
  have HX := Lib.hid (show (okFrom (-1) l = true ∧ mayT P = true ∧ mayT T = true) → rmoreP P T l = rmatch P T l from fun h => by unfold rmoreP; rw [if_pos h])
  have HN := Lib.hid (show ¬ (okFrom (-1) l = true ∧ mayT P = true ∧ mayT T = true) → rmoreP P T l = none from fun h => by unfold rmoreP; rw [if_neg h])
  obtain ⟨p0, p1, p2, p3, _, _, _, _⟩ := hgp.four
  clear hp ht hp0 ht0 okp okt hlp hlt hb2 hgp hgt hW2 hP hT hl hz hy hnp hnt hnl
  by_cases h1 : z = 0
  · subst h1
    by_cases h2 : y = 0
    · subst h2
      obtain ⟨r, hr⟩ : ∃ r, okFrom (-1) l = r := ⟨_, rfl⟩
      have HR := Lib.hid hr
      rw [hr] at HC3
      clear hr
      cases r with
      | true =>
        have hE := HX.out ⟨HR.out, by rw [HMP.out]; rfl, by rw [HMT.out]; rfl⟩
        have HBL := Lib.hid (bl_bfold l HR.out)
        have HMA := Lib.hid (fun wx (hx : Below W2.heap.size W2 wx) => rmatch_any P HNP.out (by rw [HMP.out]; rfl) T _ _ (bfold l) A c wx (HP.out.later hx) (HT.out.later hx) (by rw [HBL.out]; exact HL.out.later hx))
        rw [HBL.out] at HMA
        have HME := Lib.hid (rmatch_eq P (by rw [HMP.out]; rfl) T (bfold l))
        rw [HBL.out] at HME
        rw [hE]
        clear hE HX HN
        go_enter Try.func13, Try.ntmps13
        go_wp2_with fail
        rw [HW2.out]
        refine HC1.out.mono ?_
        rintro e w3 ⟨rfl, hb3⟩
        have HB3 := Lib.hid hb3
        obtain ⟨t0, t1, t2, t3, _, _, _, _⟩ := (HGT.out.below hb3 HGT.out.lt).four
        clear hb3 p0 p1 p2 p3
        go_wp2_with fail
        refine (HC2.out _ HB3.out).mono ?_
        rintro e w4 ⟨rfl, hb4⟩
        have HB4 := Lib.hid (bnext HB3.out hb4)
        clear hb4 t0 t1 t2 t3
        go_wp2_with fail
        refine (HC3.out _ HB4.out).mono ?_
        rintro e w5 ⟨rfl, hb5⟩
        have HB5 := Lib.hid (bnext HB4.out hb5)
        obtain ⟨p0, p1, p2, p3, _, _, _, _⟩ := (HGP.out.below HB5.out HGP.out.lt).four
        obtain ⟨t0, t1, t2, t3, _, _, _, _⟩ := (HGT.out.below HB5.out HGT.out.lt).four
        clear hb5
        go_wp2_with fail
        refine (HMA.out _ HB5.out).mono ?_
        rintro e w6 ⟨hb6, hm⟩
        have HB6 := Lib.hid (bnext HB5.out hb6)
        clear hb6 p0 p1 p2 p3 t0 t1 t2 t3
        rcases hm with ⟨ho, A9, n9, c9, rfl⟩ | ⟨L, A9, c9, ho, rfl, hbc⟩
        · have HO := Lib.hid ho
          clear ho
          go_wp2_with fail
          go_ret2
          exact ⟨bnext HB2.out HB6.out, .inl ⟨HO.out, rfl⟩⟩
        · have hLn : (∀ q ∈ L, nodes q.2 ≤ 1048576) ∧ L.length ≤ 65536 := by
            have h := HME.out
            rw [ho] at h
            cases hmf : matchF P T (bfold l) with
            | none => rw [hmf] at h; cases h
            | some b' =>
              rw [hmf] at h
              injection h with h
              subst h
              exact ⟨match_nodes hmf HNT.out (fun n u hu => by obtain ⟨q, hq, e⟩ := bfold_mem hu; rw [← e]; exact HNL.out q hq), Nat.le_trans (bl_len b' 100) (by decide)⟩
          have HCP := Lib.hid (rcopies_any L A9 c9 w6 hbc.1 hLn.2 hLn.1)
          have HO := Lib.hid ho
          clear ho hbc hLn
          go_wp2_with fail
          refine HCP.out.mono ?_
          rintro e w7 ⟨A7, c7, rfl, hrow, hb7⟩
          have HROW := Lib.hid hrow; have HB7 := Lib.hid (bnext HB6.out hb7)
          clear hrow hb7
          go_wp2_with fail
          go_ret2
          have hzz := (bnext HB2.out HB6.out).size
          refine ⟨bnext HB2.out HB7.out, .inr ⟨L, A7, c7, HO.out, rfl, ?_⟩⟩
          obtain ⟨G, xs, g1, g2, g3⟩ := HROW.out
          exact ⟨G, xs, g1, fun b hb => ⟨(g2 b hb).1, Nat.le_trans hzz (g2 b hb).2.1, (g2 b hb).2.2⟩, ownsRow_base g3 (fun r hr => Nat.le_trans hzz (g3.lt r hr).1)⟩
      | false =>
        have HE := Lib.hid (HN.out (fun h => by have := HR.out; rw [h.1] at this; cases this))
        rw [HE.out]
        clear HX HN
        go_enter Try.func13, Try.ntmps13
        go_wp2_with fail
        rw [HW2.out]
        refine HC1.out.mono ?_
        rintro e w3 ⟨rfl, hb3⟩
        have HB3 := Lib.hid hb3
        obtain ⟨t0, t1, t2, t3, _, _, _, _⟩ := (HGT.out.below hb3 HGT.out.lt).four
        clear hb3 p0 p1 p2 p3
        go_wp2_with fail
        refine (HC2.out _ HB3.out).mono ?_
        rintro e w4 ⟨rfl, hb4⟩
        have HB4 := Lib.hid (bnext HB3.out hb4)
        clear hb4 t0 t1 t2 t3
        go_wp2_with fail
        refine (HC3.out _ HB4.out).mono ?_
        rintro e w5 ⟨rfl, hb5⟩
        have HB5 := Lib.hid (bnext HB4.out hb5)
        clear hb5
        go_wp2_with fail
        go_ret2
        exact ⟨bnext HB2.out HB5.out, .inl ⟨rfl, rfl⟩⟩
    · have hyf : (y == 0) = false := by simpa using h2
      have hyf2 : (y != 0) = true := by simpa using h2
      have HE := Lib.hid (HN.out (fun h => by have := HMT.out; rw [h.2.2, decide_eq_false h2] at this; cases this))
      rw [HE.out]
      clear HX HN h2
      go_enter Try.func13, Try.ntmps13
      go_wp2_with fail
      rw [HW2.out]
      refine HC1.out.mono ?_
      rintro e w3 ⟨rfl, hb3⟩
      have HB3 := Lib.hid hb3
      obtain ⟨t0, t1, t2, t3, _, _, _, _⟩ := (HGT.out.below hb3 HGT.out.lt).four
      clear hb3 p0 p1 p2 p3
      go_wp2_with fail
      refine (HC2.out _ HB3.out).mono ?_
      rintro e w4 ⟨rfl, hb4⟩
      have HB4 := Lib.hid (bnext HB3.out hb4)
      clear hb4 t0 t1 t2 t3
      go_wp2_with fail
      go_ret2
      exact ⟨bnext HB2.out HB4.out, .inl ⟨rfl, rfl⟩⟩
  · have hzf : (z == 0) = false := by simpa using h1
    have hzf2 : (z != 0) = true := by simpa using h1
    have HE := Lib.hid (HN.out (fun h => by have := HMP.out; rw [h.2.1, decide_eq_false h1] at this; cases this))
    rw [HE.out]
    clear HX HN h1
    go_enter Try.func13, Try.ntmps13
    go_wp2_with fail
    rw [HW2.out]
    refine HC1.out.mono ?_
    rintro e w3 ⟨rfl, hb3⟩
    have HB3 := Lib.hid hb3
    clear hb3 p0 p1 p2 p3
    go_wp2_with fail
    go_ret2
    exact ⟨bnext HB2.out HB3.out, .inl ⟨rfl, rfl⟩⟩
set_option maxRecDepth 100000 in
set_option maxHeartbeats 8000000 in
theorem rmatchP_any (p t : Tm) (vp vt : Value) (w : World) (hp : TA w p vp) (ht : TA w t vt) (hnp : nodes p ≤ 1048576) (hnt : nodes t ≤ 1048576) :
    Calls Try.prog 15 #[vp, vt] w (RMorePost w (moreP p t [])) := by
  have hp0 := hp
  have ht0 := ht
  obtain ⟨pk, pn, ps, pl, Ap, cp, rfl, rfl, okp, hlp⟩ := hp.open_
  obtain ⟨tk, tn, ts, tl, At, ct, rfl, rfl, okt, hlt⟩ := ht.open_
  obtain ⟨W2, hW2⟩ : ∃ W2, (w.alloc (.cells #[.int .i64 pk, .int .i64 pn, .string ps, .slice Ap pl.length cp] 24)).alloc (.cells #[.int .i64 tk, .int .i64 tn, .string ts, .slice At tl.length ct] 24) = W2 := ⟨_, rfl⟩
  have hb2 : Below w.heap.size w W2 := by rw [← hW2]; exact ballocs (ballocs (Below.refl _ _) _) _
  have HC := Lib.hid (rmore_any _ _ [] _ _ none 0 W2 (TA.later hp0 hb2) (TA.later ht0 hb2) ⟨fun i q h => by simp at h, by simp, by simp [maxLen]⟩ (by simp) hnp hnt (fun q h => by simp at h))
  have HB2 := Lib.hid hb2; have HW2 := Lib.hid hW2
  simp only [List.length_nil] at HC
  clear hp ht hp0 ht0 okp okt hlp hlt hb2 hW2 hnp hnt
  obtain ⟨M, hM⟩ : ∃ M, moreP (.mk pk pn ps pl) (.mk tk tn ts tl) [] = M := ⟨_, rfl⟩
  rw [hM] at HC ⊢
  clear hM
  go_enter Try.func15, Try.ntmps15
  go_wp2_with fail
  rw [HW2.out]
  refine HC.out.mono ?_
  rintro e w3 ⟨hb3, hm⟩
  have HB3 := Lib.hid (bnext HB2.out hb3)
  clear hb3
  rcases hm with ⟨rfl, rfl⟩ | ⟨L, A9, c9, rfl, rfl, hrow⟩
  · go_wp2_with fail
    go_ret2
    exact ⟨HB3.out, .inl ⟨rfl, rfl⟩⟩
  · have HROW := Lib.hid hrow
    clear hrow
    go_wp2_with fail
    go_ret2
    have hzz := HB2.out.size
    refine ⟨HB3.out, .inr ⟨L, A9, c9, rfl, rfl, ?_⟩⟩
    obtain ⟨G, xs, g1, g2, g3⟩ := HROW.out
    exact ⟨G, xs, g1, fun b hb => ⟨(g2 b hb).1, Nat.le_trans hzz (g2 b hb).2.1, (g2 b hb).2.2⟩, ownsRow_base g3 (fun r hr => Nat.le_trans hzz (g3.lt r hr).1)⟩
theorem bs_of_rowF {w : World} {G F : Nat → Prop} {l : List Bnd} {xs : List Value} {B : Nat} {A : Option Addr} {c : Nat} (h1 : BVr w G l xs) (hG : ∀ b, G b → F b) (h3 : w.ownsRow B 35 5 (.slice A l.length c) l.length xs) (hF : ∀ b, B ≤ b → b < w.heap.size → F b) : BsAt w F A l := by
  intro i p hp
  have hi := (List.getElem?_eq_some_iff.1 hp).1
  obtain ⟨k, m, s, A1, len, c1, x0, x1, x2, x3, x4, ht⟩ := h1.at_ hp
  obtain ⟨g, cap, he, hg1, hg2⟩ := h3.form (by omega)
  have hA : A = some ⟨g, 0, none⟩ := by injection he
  subst hA
  have hc := h3.cells (g := g) rfl
  have q0 := hc _ _ x0
  have q1 := hc _ _ x1
  have q2 := hc _ _ x2
  have q3 := hc _ _ x3
  have q4 := hc _ _ x4
  rw [add_plain'] at q0 q1 q2 q3 q4
  exact ⟨_, ⟨g, 0, _, _, _, _, rfl, hF g (h3.lt g rfl).1 hg2, rfl, q0, by simpa [Nat.add_assoc] using q1, by simpa [Nat.add_assoc] using q2, by simpa [Nat.add_assoc] using q3, by simpa [Nat.add_assoc] using q4⟩, ht.mono hG⟩
/-- Have the bindings been told (cc)? Their blocks are none of the two variables'. -/
def Third (B : Nat) (l : List Bnd) (cc : Bool) (x bx ox : Value) (w : World) : Prop :=
  cc = true → ∃ A c, x = .slice A l.length c ∧ BsAt w (fun k => B ≤ k ∧ k < w.heap.size ∧ bx ≠ ptr k ∧ ox ≠ ptr k) A l ∧ l.length ≤ c ∧ c ≤ maxLen
section
variable {B : Nat} {l : List Bnd} {cc : Bool} {x bx ox : Value} {w w' : World}
theorem Third.start (x bx ox : Value) : Third B l false x bx ox w := nofun
theorem Third.later (h : Third B l cc x bx ox w) (hb : Below w.heap.size w w') : Third B l cc x bx ox w' := fun hc => by
  obtain ⟨A, c, e, h1, h2⟩ := h hc
  exact ⟨A, c, e, (h1.keep fun p hp => hb.cell hp.2.1).mono fun b hb' => ⟨hb'.1, Nat.lt_of_lt_of_le hb'.2.1 hb.size, hb'.2.2⟩, h2⟩
theorem Third.call {A : Option Addr} {c : Nat} (hB : B ≤ w.heap.size) (hbx : ∀ k, bx = ptr k → k < w.heap.size) (hox : ∀ k, ox = ptr k → k < w.heap.size) (hr : BRr w' w.heap.size (.slice A l.length c) l) : Third B l true (.slice A l.length c) bx ox w' := fun _ => by
  obtain ⟨_, h4, h5⟩ := hr.bc.2
  obtain ⟨G, xs, h1, h2, h3⟩ := hr
  have hne : ∀ b, w.heap.size ≤ b → bx ≠ ptr b ∧ ox ≠ ptr b := fun b hb => ⟨fun e => by have := hbx b e; omega, fun e => by have := hox b e; omega⟩
  exact ⟨A, c, rfl, bs_of_rowF h1 (fun b hb => ⟨Nat.le_trans hB (h2 b hb).2.1, (h2 b hb).1, hne b (h2 b hb).2.1⟩) h3 (fun b h6 h7 => ⟨Nat.le_trans hB h6, h7, hne b h6⟩), h4, h5⟩
theorem Third.box1 {bx' : Value} (h : Third B l cc x bx' ox w) (o : Obj) : Third B l cc x (ptr w.heap.size) ox (w.alloc o) := fun hc => by
  obtain ⟨A, c, e, h1, h2⟩ := h hc
  have hb : Below w.heap.size w (w.alloc o) := (Below.refl _ _).alloc (Nat.le_refl _) _
  exact ⟨A, c, e, (h1.keep fun p hp => hb.cell hp.2.1).mono fun b hb' => ⟨hb'.1, Nat.lt_of_lt_of_le hb'.2.1 hb.size, fun e => by have := ptr_inj e; have := hb'.2.1; omega, hb'.2.2.2⟩, h2⟩
theorem Third.box2 {ox' : Value} (h : Third B l cc x bx ox' w) (o : Obj) : Third B l cc x bx (ptr w.heap.size) (w.alloc o) := fun hc => by
  obtain ⟨A, c, e, h1, h2⟩ := h hc
  have hb : Below w.heap.size w (w.alloc o) := (Below.refl _ _).alloc (Nat.le_refl _) _
  exact ⟨A, c, e, (h1.keep fun p hp => hb.cell hp.2.1).mono fun b hb' => ⟨hb'.1, Nat.lt_of_lt_of_le hb'.2.1 hb.size, hb'.2.2.1, fun e => by have := ptr_inj e; have := hb'.2.1; omega⟩, h2⟩
theorem Third.put1 {g : Nat} {z0 z1 z2 z3 : Value} (h : Third B l cc x (ptr g) ox w) : Third B l cc x (ptr g) ox (put4 w g z0 z1 z2 z3) := fun hc => by
  obtain ⟨A, c, e, h1, h2⟩ := h hc
  exact ⟨A, c, e, (h1.keep fun p hp => put4_cell _ _ _ _ _ _ p (fun e => hp.2.2.1 (by rw [e]))).mono fun b hb' => ⟨hb'.1, by rw [put4_size]; exact hb'.2.1, hb'.2.2⟩, h2⟩
theorem Third.put2 {g : Nat} {z0 z1 z2 z3 : Value} (h : Third B l cc x bx (ptr g) w) : Third B l cc x bx (ptr g) (put4 w g z0 z1 z2 z3) := fun hc => by
  obtain ⟨A, c, e, h1, h2⟩ := h hc
  exact ⟨A, c, e, (h1.keep fun p hp => put4_cell _ _ _ _ _ _ p (fun e => hp.2.2.2 (by rw [e]))).mono fun b hb' => ⟨hb'.1, by rw [put4_size]; exact hb'.2.1, hb'.2.2⟩, h2⟩
end
end Go.Proofs.Ytlaplakaifmpeaa.Pt
