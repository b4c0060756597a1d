/- tenureref16.match, by its contract. -/
import Derived.Test.YtlaplakaifmpeaaPatRefF
import Derived.Test.YtlaplakaifmpeaaPatRefVar
import Derived.Test.YtlaplakaifmpeaaRefSame
namespace Go.Proofs.Ytlaplakaifmpeaa.Pt
open Go.RowKit K Go.Shelf
set_option linter.unusedVariables false
set_option linter.unusedSimpArgs false

/-- Bindings told, that stand in memory, or none. -/
def RmPost (w : World) (o : Option (List Bnd)) (e : Ending) (w' : World) : Prop :=
  Below w.heap.size w w' ∧ ((o = none ∧ ∃ A n c, e = .returned (.tuple #[.slice A n c, .bool false])) ∨
    ∃ (L : List Bnd) (A : Option Addr) (c : Nat), o = some L ∧ e = .returned (.tuple #[.slice A L.length c, .bool true]) ∧ BcAt w' A c L)
def RMatchC (p : Tm) : Prop := nodes p ≤ 1048576 → mayT p = true → ∀ (t : Tm) (vp vt : Value) (B : Bf) (A : Option Addr) (c : Nat) (w : World), TA w p vp → TA w t vt → BcAt w A c (bl B 100) →
  Calls Try.prog 46 #[vp, vt, .slice A (bl B 100).length c] w (RmPost w (rmatch p t (bl B 100)))
set_option maxRecDepth 100000 in
set_option maxHeartbeats 16000000 in
theorem rmatch_any : ∀ p : Tm, RMatchC p := by
  refine Tm.ind fun p ih hnp hm t vp vt B A c w hp ht hbb => ?_
  have hmem : ∀ u ∈ p.l, mayT u = true := fun u hu => may_mem hm hu
  have hp0 := hp
  have ht0 := ht
  obtain ⟨Ap, cp, rfl, okp, hlp⟩ := hp.inv
  obtain ⟨At, ct, rfl, okt, hlt⟩ := ht.inv
  obtain ⟨k, n, s, l⟩ := p
  obtain ⟨tk, tn, ts, tl⟩ := t
  unfold tv at hp0 ht0 ⊢
  simp only [Tm.k_mk, Tm.n_mk, Tm.s_mk, Tm.l_mk] at hp0 ht0 ih hlp hlt hmem ⊢
  obtain ⟨W2, hW2⟩ : ∃ W2, (w.alloc (.cells #[.int .i64 k, .int .i64 n, .string s, .slice Ap l.length cp] 24)).alloc (.cells #[.int .i64 tk, .int .i64 tn, .string ts, .slice At tl.length ct] 24) = W2 := ⟨_, rfl⟩
  have hb2 : Below w.heap.size w W2 := by rw [← hW2]; exact ballocs (ballocs (Below.refl _ _) _) _
  have hgp : Blk W2 w.heap.size 24 #[.int .i64 k, .int .i64 n, .string s, .slice Ap l.length cp] := by rw [← hW2]; exact (Blk.new _ _ _).alloc _
  have hgt : Blk W2 (w.heap.size + 1) 24 #[.int .i64 tk, .int .i64 tn, .string ts, .slice At tl.length ct] := by
    rw [← hW2]
    have := Blk.new (w.alloc (.cells #[.int .i64 k, .int .i64 n, .string s, .slice Ap l.length cp] 24)) 24 #[.int .i64 tk, .int .i64 tn, .string ts, .slice At tl.length ct]
    simp only [World.size_alloc] at this
    exact this
  have HP := Lib.hid (show TA W2 (.mk k n s l) _ from TA.later hp0 hb2)
  have HT := Lib.hid (show TA W2 (.mk tk tn ts tl) _ from TA.later ht0 hb2)
  have HLP := Lib.hid (show TsA W2 Ap l from TsA.later hlp hb2)
  have HLT := Lib.hid (show TsA W2 At tl from TsA.later hlt hb2)
  have HGP := Lib.hid hgp; have HGT := Lib.hid hgt; have HB2 := Lib.hid hb2; have HW2 := Lib.hid hW2
  have HBB := Lib.hid (hbb.later hb2)
  have HIH := Lib.hid (fun u hu => ih u hu (by have := nodesL_mem hu; rw [nodes_mk] at hnp; omega) (hmem u hu))
  have HEQ := Lib.hid (fun u (hu : u ∈ l) => rmatch_eq u (hmem u hu))
  have HV := Lib.hid (rvar_any _ _ W2 HP.out hnp)
  have HMK := Lib.hid (rmatch_mk k n s l (.mk tk tn ts tl) (bl B 100))
  have hvm := varT_may hm
  obtain ⟨p0, p1, p2, p3, _, _, _, _⟩ := hgp.four
  obtain ⟨t0, t1, t2, t3, _, _, _, _⟩ := hgt.four
  have hbl : (bl B 100).length ≤ 65536 := Nat.le_trans (bl_len B 100) (by decide)
  have hl1 : l.length ≤ maxLen := Nat.le_trans okp.hl okp.hc
  have hl2 : tl.length ≤ maxLen := Nat.le_trans okt.hl okt.hc
  unfold maxLen at hl1 hl2
  cases hv : varT (.mk k n s l) with
  | some q =>
    rw [hv] at HV HMK
    unfold numV at HV
    simp only at HMK
    have HF := Lib.hid (fun wx (hx : Below W2.heap.size W2 wx) => find_any (bl B 100) (q : Int) A c wx (HBB.out.later hx).1 hbl)
    have HBD := Lib.hid (fun wx (hx : Below W2.heap.size W2 wx) => bind_any (bl B 100) (q : Int) (.mk tk tn ts tl) A c _ wx (HBB.out.later hx) hbl (HT.out.later hx))
    obtain ⟨V, hV⟩ : ∃ V, bl B 100 = V := ⟨_, rfl⟩
    rw [hV] at HBB HMK HF HBD hbl ⊢
    clear hp ht hp0 ht0 okp okt hlp hlt hb2 hgp hgt hW2 ih hnp hmem hm hbb hvm hv hV HIH HEQ p0 p1 p2 p3 t0 t1 t2 t3 hl1 hl2
    go_enter Try.func46, Try.ntmps46
    go_wp2_with fail
    rw [HW2.out]
    refine HV.out.mono ?_
    rintro e w3 ⟨rfl, hb3⟩
    have HB3 := Lib.hid hb3
    clear hb3
    go_wp2_with fail
    refine (HF.out w3 HB3.out).mono ?_
    rintro e w4 ⟨hb4, hfd⟩
    have HB4 := Lib.hid (bnext HB3.out hb4)
    rcases hfd with ⟨ho, rfl⟩ | ⟨u, Au, cu, ho, rfl, htu⟩
    · have HE := Lib.hid (show rmatch (.mk k n s l) (.mk tk tn ts tl) V = some (insB V (q : Int) (.mk tk tn ts tl)) from by rw [HMK.out, ho])
      obtain ⟨W5, hW5⟩ : ∃ W5, w4.alloc (.cells #[.int .i64 0, .int .i64 0, .string ⟨#[]⟩, .slice none 0 0] 24) = W5 := ⟨_, rfl⟩
      have hb5 : Below w4.heap.size w4 W5 := by rw [← hW5]; exact ballocs (Below.refl _ _) _
      have HB5 := Lib.hid (bnext HB4.out hb5)
      have HGT5 := Lib.hid ((HGT.out.below HB4.out HGT.out.lt).below hb5 (HGT.out.below HB4.out HGT.out.lt).lt)
      obtain ⟨t0, t1, t2, t3, _, _, _, _⟩ := HGT5.out.four
      have HC5 := Lib.hid (HBD.out W5 HB5.out)
      clear hb4 ho hb5
      subst hW5
      go_wp2_with fail
      refine HC5.out.mono ?_
      rintro e w6 ⟨A6, c6, rfl, hbc, hb6⟩
      have HBC := Lib.hid hbc; have HB6 := Lib.hid (bnext HB2.out (bnext HB5.out hb6))
      clear hbc hb6 t0 t1 t2 t3
      go_wp2_with fail
      go_ret2
      exact ⟨HB6.out, .inr ⟨_, A6, c6, HE.out, rfl, HBC.out⟩⟩
    · have HE := Lib.hid (show rmatch (.mk k n s l) (.mk tk tn ts tl) V = if eqT u (.mk tk tn ts tl) = true then some V else none from by rw [HMK.out, ho])
      unfold tv at htu ⊢
      obtain ⟨W5, hW5⟩ : ∃ W5, w4.alloc (.cells #[.int .i64 u.k, .int .i64 u.n, .string u.s, .slice Au u.l.length cu] 24) = W5 := ⟨_, rfl⟩
      have hb5 : Below w4.heap.size w4 W5 := by rw [← hW5]; exact ballocs (Below.refl _ _) _
      have HB5 := Lib.hid (bnext HB4.out hb5)
      have HGT5 := Lib.hid ((HGT.out.below HB4.out HGT.out.lt).below hb5 (HGT.out.below HB4.out HGT.out.lt).lt)
      have hgu : Blk W5 w4.heap.size 24 #[.int .i64 u.k, .int .i64 u.n, .string u.s, .slice Au u.l.length cu] := by rw [← hW5]; exact Blk.new _ _ _
      obtain ⟨t0, t1, t2, t3, _, _, _, _⟩ := HGT5.out.four
      obtain ⟨u0, u1, u2, u3, _, _, _, _⟩ := hgu.four
      have HC5 := Lib.hid (rsame_any u (.mk tk tn ts tl) _ _ W5 (TA.later htu hb5) (HT.out.later HB5.out))
      clear hb4 ho hb5 hgu htu
      subst hW5
      go_wp2_with fail
      refine HC5.out.mono ?_
      rintro e w6 ⟨rfl, hb6⟩
      have HB6 := Lib.hid (bnext HB2.out (bnext HB5.out hb6))
      have HBC := Lib.hid (HBB.out.later (bnext HB5.out hb6))
      obtain ⟨r, hr⟩ : ∃ r, eqT u (.mk tk tn ts tl) = r := ⟨_, rfl⟩
      rw [hr] at HE ⊢
      clear hb6 t0 t1 t2 t3 u0 u1 u2 u3 hr
      cases r with
      | true =>
        go_wp2_with fail
        go_ret2
        exact ⟨HB6.out, .inr ⟨V, A, c, HE.out, rfl, HBC.out⟩⟩
      | false =>
        go_wp2_with fail
        go_ret2
        exact ⟨HB6.out, .inl ⟨HE.out, A, V.length, c, rfl⟩⟩
  | none =>
    rw [hv] at HV HMK
    unfold numV at HV
    simp only at HMK
    obtain ⟨V, hV⟩ : ∃ V, bl B 100 = V := ⟨_, rfl⟩
    have HVB := Lib.hid hV
    rw [hV] at HBB HMK hbl ⊢
    have HS := Lib.hid (fun wx (hx : Below W2.heap.size W2 wx) => rsame_any (.mk k n s l) (.mk tk tn ts tl) _ _ wx (HP.out.later hx) (HT.out.later hx))
    clear hp ht hp0 ht0 okp okt hlp hlt hb2 hgp hgt hW2 ih hnp hmem hm hbb hvm hv hV p0 p1 p2 p3 t0 t1 t2 t3
    by_cases h2 : k = 2
    · subst h2
      by_cases hus : s = uscore
      · have hu1 : (s.toList == [95]) = true := by rw [hus, Lib.toList_data]; rfl
        have hu2 : s.toList = [95] := by rw [hus, Lib.toList_data]; rfl
        have HE := Lib.hid (show rmatch (.mk 2 n s l) (.mk tk tn ts tl) V = some V from by rw [HMK.out, if_pos ⟨rfl, hus⟩])
        clear hus
        go_enter Try.func46, Try.ntmps46
        go_wp2_with fail
        rw [HW2.out]
        refine HV.out.mono ?_
        rintro e w3 ⟨rfl, hb3⟩
        have HB3 := Lib.hid hb3
        obtain ⟨p0, p1, p2, p3, _, _, _, _⟩ := (HGP.out.below hb3 HGP.out.lt).four
        clear hb3
        go_wp2_with fail
        go_ret2
        exact ⟨bnext HB2.out HB3.out, .inr ⟨V, A, c, HE.out, rfl, HBB.out.later HB3.out⟩⟩
      · have hu1 := us_ne hus
        have HE := Lib.hid (show rmatch (.mk 2 n s l) (.mk tk tn ts tl) V = if eqT (.mk 2 n s l) (.mk tk tn ts tl) = true then some V else none from by rw [HMK.out, if_neg (fun e => hus e.2), if_neg (by omega)])
        clear hus
        go_enter Try.func46, Try.ntmps46
        go_wp2_with fail
        rw [HW2.out]
        refine HV.out.mono ?_
        rintro e w3 ⟨rfl, hb3⟩
        have HB3 := Lib.hid hb3
        obtain ⟨p0, p1, p2, p3, _, _, _, _⟩ := (HGP.out.below hb3 HGP.out.lt).four
        obtain ⟨t0, t1, t2, t3, _, _, _, _⟩ := (HGT.out.below hb3 HGT.out.lt).four
        clear hb3
        go_wp2_with fail
        refine (HS.out _ HB3.out).mono ?_
        rintro e w4 ⟨rfl, hb4⟩
        have HB4 := Lib.hid (bnext HB2.out (bnext HB3.out hb4))
        have HBC := Lib.hid (HBB.out.later (bnext HB3.out hb4))
        obtain ⟨r, hr⟩ : ∃ r, eqT (.mk 2 n s l) (.mk tk tn ts tl) = r := ⟨_, rfl⟩
        rw [hr] at HE ⊢
        clear hb4 p0 p1 p2 p3 t0 t1 t2 t3 hr
        cases r with
        | true =>
          go_wp2_with fail
          go_ret2
          exact ⟨HB4.out, .inr ⟨V, A, c, HE.out, rfl, HBC.out⟩⟩
        | false =>
          go_wp2_with fail
          go_ret2
          exact ⟨HB4.out, .inl ⟨HE.out, A, V.length, c, rfl⟩⟩
    by_cases h79 : k = 7 ∨ k = 9
    · by_cases hsm : tk = k ∧ tl.length = l.length
      · obtain ⟨rfl, hll⟩ := hsm
        have HE := Lib.hid (show rmatch (.mk tk n s l) (.mk tk tn ts tl) V = rmatchL l tl V from by rw [HMK.out, if_neg (fun e => h2 e.1), if_pos h79, if_pos (by simpa using hll)]; rfl)
        have HLL := Lib.hid hll
        rw [hll] at HGT
        clear hll
        rcases h79 with rfl | rfl
        all_goals
          go_enter Try.func46, Try.ntmps46
          go_wp2_with fail
          rw [HW2.out]
          refine HV.out.mono ?_
          rintro e w3 ⟨rfl, hb3⟩
          have HB3 := Lib.hid hb3
          obtain ⟨p0, p1, p2, p3, _, _, _, _⟩ := (HGP.out.below hb3 HGP.out.lt).four
          obtain ⟨t0, t1, t2, t3, _, _, _, _⟩ := (HGT.out.below hb3 HGT.out.lt).four
          clear hb3
          go_wp2_with fail
          go_loopw [2, 12] (fun x y wr => ∃ (i : Nat) (B' : Bf) (A' : Option Addr) (c' : Nat), i ≤ l.length ∧ y = .int .i64 (i : Int) ∧ x = .slice A' (bl B' 100).length c' ∧ rmatchL l tl V = rmatchL (l.drop i) (tl.drop i) (bl B' 100) ∧ BcAt wr A' c' (bl B' 100) ∧ Below W2.heap.size W2 wr) (fun _ y _ => l.length - (intOf y).toNat)
          case atStart => exact ⟨0, B, A, c, Nat.zero_le _, rfl, by rw [HVB.out], by rw [HVB.out]; rfl, by rw [HVB.out]; exact HBB.out.later HB3.out, HB3.out⟩
          case round =>
            obtain ⟨i, B', A', c', hi, rfl, rfl, hrm, hbc, hb⟩ := hrel
            have HB := Lib.hid hb; have HRM := Lib.hid hrm; have HBC := Lib.hid hbc
            have hsz := hb.size
            obtain ⟨_, _, _, a3, _, _, _, _⟩ := (HGP.out.below hb HGP.out.lt).four
            obtain ⟨_, _, _, a4, _, _, _, _⟩ := (HGT.out.below hb HGT.out.lt).four
            clear hrm hbc p0 p1 p2 p3 t0 t1 t2 t3
            by_cases hlt : i < l.length
            · obtain ⟨pi, hpi⟩ : ∃ u, l[i]? = some u := ⟨_, List.getElem?_eq_getElem hlt⟩
              obtain ⟨ti, hti⟩ : ∃ u, tl[i]? = some u := ⟨_, List.getElem?_eq_getElem (by rw [HLL.out]; exact hlt)⟩
              obtain ⟨bp, op, Aq, cq, rfl, hbp, d0, d1, d2, d3, hta, _⟩ := (HLP.out.later hb).at_ hpi
              obtain ⟨bt, ot, Ar, cr, rfl, hbt, e0, e1, e2, e3, htb, _⟩ := (HLT.out.later hb).at_ hti
              have HC := Lib.hid (HIH.out pi (List.mem_of_getElem? hpi) ti _ _ B' A' c' wr.drew (TA.later hta (btodrew (Below.refl _ _))) (TA.later htb (btodrew (Below.refl _ _))) (HBC.out.later (btodrew (Below.refl _ _))))
              have HST := Lib.hid (show rmatchL l tl V = ((matchF pi ti B').map fun c => bl c 100).bind fun b2 => rmatchL (l.drop (i + 1)) (tl.drop (i + 1)) b2 from by
                obtain ⟨h1, h2⟩ := List.getElem?_eq_some_iff.1 hpi
                obtain ⟨h3, h4⟩ := List.getElem?_eq_some_iff.1 hti
                rw [HRM.out, List.drop_eq_getElem_cons h1, List.drop_eq_getElem_cons h3, h2, h4, rmatchL_cons, HEQ.out pi (List.mem_of_getElem? hpi) ti B'])
              have HQ := Lib.hid (HEQ.out pi (List.mem_of_getElem? hpi) ti B')
              have hi0 : (0 : Int) ≤ (i : Int) := by omega
              have hil : (i : Int) < (l.length : Int) := by omega
              have HSX := Lib.hid (show ∀ wx, Below wr.heap.size wr wx → (wx.cell? ⟨w.heap.size, 3, none⟩ = some (.slice (some ⟨bp, op, none⟩) l.length cp) ∧ wx.cell? ⟨w.heap.size + 1, 3, none⟩ = some (.slice (some ⟨bt, ot, none⟩) l.length ct)) ∧ (wx.cell? ⟨bp, op + i * 4, none⟩ = some (.int .i64 pi.k) ∧ wx.cell? ⟨bp, op + i * 4 + 1, none⟩ = some (.int .i64 pi.n) ∧ wx.cell? ⟨bp, op + i * 4 + 2, none⟩ = some (.string pi.s) ∧ wx.cell? ⟨bp, op + i * 4 + 3, none⟩ = some (.slice Aq pi.l.length cq)) ∧ (wx.cell? ⟨bt, ot + i * 4, none⟩ = some (.int .i64 ti.k) ∧ wx.cell? ⟨bt, ot + i * 4 + 1, none⟩ = some (.int .i64 ti.n) ∧ wx.cell? ⟨bt, ot + i * 4 + 2, none⟩ = some (.string ti.s) ∧ wx.cell? ⟨bt, ot + i * 4 + 3, none⟩ = some (.slice Ar ti.l.length cr)) from fun wx hx => by
                have hx2 := bnext HB.out hx
                obtain ⟨_, _, _, x3, _, _, _, _⟩ := (HGP.out.below hx2 HGP.out.lt).four
                obtain ⟨_, _, _, x4, _, _, _, _⟩ := (HGT.out.below hx2 HGT.out.lt).four
                exact ⟨⟨x3, x4⟩, ⟨(hx.cell (p := ⟨bp, op + i * 4, none⟩) hbp).trans d0, (hx.cell (p := ⟨bp, op + i * 4 + 1, none⟩) hbp).trans d1, (hx.cell (p := ⟨bp, op + i * 4 + 2, none⟩) hbp).trans d2, (hx.cell (p := ⟨bp, op + i * 4 + 3, none⟩) hbp).trans d3⟩, ⟨(hx.cell (p := ⟨bt, ot + i * 4, none⟩) hbt).trans e0, (hx.cell (p := ⟨bt, ot + i * 4 + 1, none⟩) hbt).trans e1, (hx.cell (p := ⟨bt, ot + i * 4 + 2, none⟩) hbt).trans e2, (hx.cell (p := ⟨bt, ot + i * 4 + 3, none⟩) hbt).trans e3⟩⟩)
              clear hpi hti hb hta htb
              go_wp2_with fail
              go_region_held3 (fun wx => (wx.cell? ⟨w.heap.size, 3, none⟩ = some (.slice (some ⟨bp, op, none⟩) l.length cp) ∧ wx.cell? ⟨w.heap.size + 1, 3, none⟩ = some (.slice (some ⟨bt, ot, none⟩) l.length ct)) ∧ (wx.cell? ⟨bp, op + i * 4, none⟩ = some (.int .i64 pi.k) ∧ wx.cell? ⟨bp, op + i * 4 + 1, none⟩ = some (.int .i64 pi.n) ∧ wx.cell? ⟨bp, op + i * 4 + 2, none⟩ = some (.string pi.s) ∧ wx.cell? ⟨bp, op + i * 4 + 3, none⟩ = some (.slice Aq pi.l.length cq)) ∧ (wx.cell? ⟨bt, ot + i * 4, none⟩ = some (.int .i64 ti.k) ∧ wx.cell? ⟨bt, ot + i * 4 + 1, none⟩ = some (.int .i64 ti.n) ∧ wx.cell? ⟨bt, ot + i * 4 + 2, none⟩ = some (.string ti.s) ∧ wx.cell? ⟨bt, ot + i * 4 + 3, none⟩ = some (.slice Ar ti.l.length cr))) (first
                | exact HSX.out _ (btodrew (Below.refl _ _))
                | exact HSX.out _ HKW.out
                | assumption) (first
                | (go_at_call 46
                   refine HC.out.mono ?_
                   rintro e w4 ⟨hb4, hm4⟩
                   have HKW := Lib.hid (show Below wr.heap.size wr w4 from (btodrew (Below.refl _ _)).trans hb4)
                   obtain ⟨Am, nm, cm, rm, rfl, hmm⟩ : ∃ Am nm cm rm, e = .returned (.tuple #[.slice Am nm cm, .bool rm]) ∧ ((rm = false ∧ rmatch pi ti (bl B' 100) = none) ∨ (rm = true ∧ ∃ L, rmatch pi ti (bl B' 100) = some L ∧ nm = L.length ∧ BcAt w4 Am cm L)) := by
                     rcases hm4 with ⟨ho, A9, n9, c9, rfl⟩ | ⟨L, A9, c9, ho, rfl, hbc⟩
                     · exact ⟨A9, n9, c9, false, rfl, .inl ⟨rfl, ho⟩⟩
                     · exact ⟨A9, L.length, c9, true, rfl, .inr ⟨rfl, L, ho, rfl, hbc⟩⟩
                   have HMM := Lib.hid hmm
                   clear hb4 hm4 hmm)
                | fail)
              have HB4 := Lib.hid (bnext HB.out HKW.out)
              rcases HMM.out with ⟨rfl, hno⟩ | ⟨rfl, L, hsome, rfl, hbc4⟩
              · have HE2 := Lib.hid (show rmatchL l tl V = none from by rw [HST.out, ← HQ.out, hno]; rfl)
                clear hno HMM
                go_wp2_with fail
                go_ret2
                exact ⟨bnext HB2.out HB4.out, .inl ⟨by rw [HE.out, HE2.out], none, 0, 0, rfl⟩⟩
              · obtain ⟨B2, hB2, rfl⟩ : ∃ B2, matchF pi ti B' = some B2 ∧ L = bl B2 100 := by
                  have h := HQ.out
                  rw [hsome] at h
                  cases hmf : matchF pi ti B' with
                  | none => rw [hmf] at h; cases h
                  | some B2 => rw [hmf] at h; injection h with h; exact ⟨B2, rfl, h⟩
                have HE2 := Lib.hid (show rmatchL l tl V = rmatchL (l.drop (i + 1)) (tl.drop (i + 1)) (bl B2 100) from by rw [HST.out, hB2]; rfl)
                have HBC4 := Lib.hid hbc4
                clear hsome hB2 hbc4 HMM
                go_wp2_with fail
                go_roundw
                case rel => exact ⟨i + 1, B2, Am, cm, by omega, by go_num, rfl, HE2.out, HBC4.out, HB4.out⟩
                case measure => simp [intOf]; omega
            · obtain rfl : i = l.length := by omega
              have HE2 := Lib.hid (show rmatchL l tl V = some (bl B' 100) from by rw [HRM.out, List.drop_length, rmatchL_nil])
              clear hb
              go_wp2_with fail
              go_ret2
              exact ⟨bnext HB2.out HB.out, .inr ⟨_, A', c', by rw [HE.out, HE2.out], rfl, HBC.out⟩⟩
      · have HE := Lib.hid (show rmatch (.mk k n s l) (.mk tk tn ts tl) V = none from by rw [HMK.out, if_neg (fun e => h2 e.1), if_pos h79, if_neg (by simpa using hsm)])
        by_cases htk : tk = k
        · have hln : ¬ tl.length = l.length := fun e => hsm ⟨htk, e⟩
          subst htk
          have hb1 : ((tl.length : Int) != (l.length : Int)) = true := by rw [bne_iff_ne]; omega
          clear hsm hln
          rcases h79 with rfl | rfl
          all_goals
            go_enter Try.func46, Try.ntmps46
            go_wp2_with fail
            rw [HW2.out]
            refine HV.out.mono ?_
            rintro e w3 ⟨rfl, hb3⟩
            have HB3 := Lib.hid hb3
            obtain ⟨p0, p1, p2, p3, _, _, _, _⟩ := (HGP.out.below hb3 HGP.out.lt).four
            obtain ⟨t0, t1, t2, t3, _, _, _, _⟩ := (HGT.out.below hb3 HGT.out.lt).four
            clear hb3
            go_wp2_with fail
            go_ret2
            exact ⟨bnext HB2.out HB3.out, .inl ⟨HE.out, none, 0, 0, rfl⟩⟩
        · have hkk : (tk != k) = true := by rw [bne_iff_ne]; exact htk
          have hkk2 : (tk == k) = false := by rw [beq_eq_false_iff_ne]; exact htk
          clear hsm
          rcases h79 with rfl | rfl
          all_goals
            go_enter Try.func46, Try.ntmps46
            go_wp2_with fail
            rw [HW2.out]
            refine HV.out.mono ?_
            rintro e w3 ⟨rfl, hb3⟩
            have HB3 := Lib.hid hb3
            obtain ⟨p0, p1, p2, p3, _, _, _, _⟩ := (HGP.out.below hb3 HGP.out.lt).four
            obtain ⟨t0, t1, t2, t3, _, _, _, _⟩ := (HGT.out.below hb3 HGT.out.lt).four
            clear hb3
            go_wp2_with fail
            go_ret2
            exact ⟨bnext HB2.out HB3.out, .inl ⟨HE.out, none, 0, 0, rfl⟩⟩
    · have hk2 : (k == 2) = false := by simpa using h2
      have hk7 : (k == 7) = false := by rw [beq_eq_false_iff_ne]; exact fun e => h79 (.inl e)
      have hk9 : (k == 9) = false := by rw [beq_eq_false_iff_ne]; exact fun e => h79 (.inr e)
      have hk7' : (k != 7) = true := by rw [bne_iff_ne]; exact fun e => h79 (.inl e)
      have hk9' : (k != 9) = true := by rw [bne_iff_ne]; exact fun e => h79 (.inr e)
      have HE := Lib.hid (show rmatch (.mk k n s l) (.mk tk tn ts tl) V = if eqT (.mk k n s l) (.mk tk tn ts tl) = true then some V else none from by rw [HMK.out, if_neg (fun e => h2 e.1), if_neg h79])
      clear h2 h79
      go_enter Try.func46, Try.ntmps46
      go_wp2_with fail
      rw [HW2.out]
      refine HV.out.mono ?_
      rintro e w3 ⟨rfl, hb3⟩
      have HB3 := Lib.hid hb3
      obtain ⟨p0, p1, p2, p3, _, _, _, _⟩ := (HGP.out.below hb3 HGP.out.lt).four
      obtain ⟨t0, t1, t2, t3, _, _, _, _⟩ := (HGT.out.below hb3 HGT.out.lt).four
      clear hb3
      go_wp2_with fail
      refine (HS.out _ HB3.out).mono ?_
      rintro e w4 ⟨rfl, hb4⟩
      have HB4 := Lib.hid (bnext HB2.out (bnext HB3.out hb4))
      have HBC := Lib.hid (HBB.out.later (bnext HB3.out hb4))
      obtain ⟨r, hr⟩ : ∃ r, eqT (.mk k n s l) (.mk tk tn ts tl) = r := ⟨_, rfl⟩
      rw [hr] at HE ⊢
      clear hb4 p0 p1 p2 p3 t0 t1 t2 t3 hr
      cases r with
      | true =>
        go_wp2_with fail
        go_ret2
        exact ⟨HB4.out, .inr ⟨V, A, c, HE.out, rfl, HBC.out⟩⟩
      | false =>
        go_wp2_with fail
        go_ret2
        exact ⟨HB4.out, .inl ⟨HE.out, A, V.length, c, rfl⟩⟩
end Go.Proofs.Ytlaplakaifmpeaa.Pt
