/- pattern.More and Match, by contracts. -/
import Derived.Test.YtlaplakaifmpeaaPatTells
namespace Go.Proofs.Ytlaplakaifmpeaa.Pt
open Go.RowKit K Go.Shelf
set_option linter.unusedVariables false
set_option linter.unusedSimpArgs false

theorem BRow.base {w : World} {B B' : Nat} {v : Value} {l : List Bnd} (h : BRow w B v l) (hB : B' ≤ B) : BRow w B' v l := by
  obtain ⟨G, xs, h1, h2, h3⟩ := h
  exact ⟨G, xs, h1, fun b hb => ⟨(h2 b hb).1, Nat.le_trans hB (h2 b hb).2.1, (h2 b hb).2.2⟩, ownsRow_base h3 (fun r hr => Nat.le_trans hB (h3.lt r hr).1)⟩
/-- The bindings with which a pattern matches a term, some first. -/
noncomputable def moreP (p t : Tm) (l : List Bnd) : Option (List Bnd) := if okFrom (-1) l = true ∧ mayT p = true ∧ mayT t = true then (matchF p t (bfold l)).map fun b => bl b 100 else none
def MorePost (w : World) (o : Option (List Bnd)) (e : Ending) (w' : World) : Prop :=
  Below w.heap.size w w' ∧ ((o = none ∧ e = .returned (.tuple #[.slice none 0 0, .bool false])) ∨ ∃ L A c, o = some L ∧ e = .returned (.tuple #[.slice A L.length c, .bool true]) ∧ BRow w' w.heap.size (.slice A L.length c) L)
set_option maxRecDepth 100000 in
set_option maxHeartbeats 8000000 in
theorem more_any (p t : Tm) (l : List Bnd) (vp vt : Value) (A : Option Addr) (c : Nat) (w : World) (hp : TA w p vp) (ht : TA w t vt) (hl : BsAt w (· < w.heap.size) A l) (hlm : l.length ≤ maxLen) (hnp : nodes p ≤ 1048576) (hnt : nodes t ≤ 1048576) (hnl : ∀ q ∈ l, nodes q.2 ≤ 1048576) :
    Calls Try.prog 12 #[vp, vt, .slice A l.length c] w (MorePost w (moreP p t l)) := by
  have hp0 := hp
  have ht0 := ht
  obtain ⟨pk, pn, ps, pl, Ap, cp, rfl, rfl, okp, hlp⟩ := hp.open_
  obtain ⟨tk, tn, ts, tl, At, ct, rfl, rfl, okt, hlt⟩ := ht.open_
  obtain ⟨W2, hW2⟩ : ∃ W2, (w.alloc (.cells #[.int .i64 pk, .int .i64 pn, .string ps, .slice Ap pl.length cp] 24)).alloc (.cells #[.int .i64 tk, .int .i64 tn, .string ts, .slice At tl.length ct] 24) = W2 := ⟨_, rfl⟩
  have hb2 : Below w.heap.size w W2 := by rw [← hW2]; exact ballocs (ballocs (Below.refl _ _) _) _
  have hgp : Blk W2 w.heap.size 24 #[.int .i64 pk, .int .i64 pn, .string ps, .slice Ap pl.length cp] := by rw [← hW2]; exact (Blk.new _ _ _).alloc _
  have hgt : Blk W2 (w.heap.size + 1) 24 #[.int .i64 tk, .int .i64 tn, .string ts, .slice At tl.length ct] := by
    rw [← hW2]
    have := Blk.new (w.alloc (.cells #[.int .i64 pk, .int .i64 pn, .string ps, .slice Ap pl.length cp] 24)) 24 #[.int .i64 tk, .int .i64 tn, .string ts, .slice At tl.length ct]
    simp only [World.size_alloc] at this
    exact this
  have HRD := Lib.hid (read_any l A c w.heap.size W2 hlm (hl.keep fun q hq => hb2.cell hq) hb2.size hnl)
  obtain ⟨P, hP⟩ : ∃ P, Tm.mk pk pn ps pl = P := ⟨_, rfl⟩
  obtain ⟨T, hT⟩ : ∃ T, Tm.mk tk tn ts tl = T := ⟨_, rfl⟩
  rw [hP] at hp0 hnp ⊢
  rw [hT] at ht0 hnt ⊢
  have HP := Lib.hid hp0
  have HT := Lib.hid ht0
  have HB2 := Lib.hid hb2
  have HGP := Lib.hid hgp
  have HGT := Lib.hid hgt
  have HW2 := Lib.hid hW2
  have HNP := Lib.hid hnp
  have HNT := Lib.hid hnt
  clear hp ht hp0 ht0 okp okt hlp hlt hb2 hgp hgt hW2 hP hT hl hnp hnt hnl hlm
  go_enter Try.func12, Try.ntmps12
  go_wp2_with fail
  rw [HW2.out]
  refine HRD.out.mono ?_
  rintro e w3 (⟨ho, rfl, hb⟩ | ⟨ho, rfl, hbd, hb⟩)
  · have HE := Lib.hid (show moreP P T l = none from by unfold moreP; rw [if_neg (by rw [ho]; simp)])
    have HB3 := Lib.hid (bnext HB2.out hb)
    clear hb ho
    go_wp2_with fail
    go_ret2
    exact ⟨HB3.out, .inl ⟨HE.out, rfl⟩⟩
  · have HO := Lib.hid ho
    have HBD := Lib.hid hbd
    have HB3 := Lib.hid (bnext HB2.out hb)
    have HGP3 := Lib.hid (HGP.out.below hb HGP.out.lt)
    have HGT3 := Lib.hid (HGT.out.below hb HGT.out.lt)
    obtain ⟨p0, p1, p2, p3, _, _, _, _⟩ := HGP3.out.four
    clear hb ho hbd
    have HMP := Lib.hid (may_any P _ w3 (HP.out.later HB3.out) HNP.out)
    cases hmp : mayT P with
    | false =>
      have HE := Lib.hid (show moreP P T l = none from by unfold moreP; rw [if_neg (by rw [hmp]; simp)])
      rw [hmp] at HMP
      clear hmp
      go_wp2_with fail
      refine HMP.out.mono ?_
      rintro e w4 ⟨rfl, hb⟩
      have HB4 := Lib.hid (bnext HB3.out hb)
      clear hb
      go_wp2_with fail
      go_ret2
      exact ⟨HB4.out, .inl ⟨HE.out, rfl⟩⟩
    | true =>
      have HMPE := Lib.hid hmp
      rw [hmp] at HMP
      clear hmp
      go_wp2_with fail
      refine HMP.out.mono ?_
      rintro e w4 ⟨rfl, hb⟩
      have HB4 := Lib.hid (bnext HB3.out hb)
      have HB34 := Lib.hid hb
      have HGP4 := Lib.hid (HGP3.out.below hb HGP3.out.lt)
      have HGT4 := Lib.hid (HGT3.out.below hb HGT3.out.lt)
      obtain ⟨t0, t1, t2, t3, _, _, _, _⟩ := HGT4.out.four
      clear hb p0 p1 p2 p3
      have HMT := Lib.hid (may_any T _ w4 (HT.out.later HB4.out) HNT.out)
      cases hmt : mayT T with
      | false =>
        have HE := Lib.hid (show moreP P T l = none from by unfold moreP; rw [if_neg (by rw [hmt]; simp)])
        rw [hmt] at HMT
        clear hmt
        go_wp2_with fail
        refine HMT.out.mono ?_
        rintro e w5 ⟨rfl, hb⟩
        have HB5 := Lib.hid (bnext HB4.out hb)
        clear hb
        go_wp2_with fail
        go_ret2
        exact ⟨HB5.out, .inl ⟨HE.out, rfl⟩⟩
      | true =>
        have HE := Lib.hid (show moreP P T l = (matchF P T (bfold l)).map fun b => bl b 100 from by unfold moreP; rw [if_pos ⟨HO.out, HMPE.out, hmt⟩])
        rw [hmt] at HMT
        clear hmt
        go_wp2_with fail
        refine HMT.out.mono ?_
        rintro e w5 ⟨rfl, hb⟩
        have HB5 := Lib.hid (bnext HB4.out hb)
        have HBD5 := Lib.hid ((HBD.out.later HB34.out).later hb)
        obtain ⟨p0, p1, p2, p3, _, _, _, _⟩ := (HGP4.out.below hb HGP4.out.lt).four
        obtain ⟨t0', t1', t2', t3', _, _, _, _⟩ := (HGT4.out.below hb HGT4.out.lt).four
        have HMA := Lib.hid (match_any P HNP.out T _ _ (bfold l) w5 W2.heap.size w.heap.size HBD5.out (TAt.under HP.out HB5.out (fun b h => h)) (TAt.under HT.out HB5.out (fun b h => h)) HNT.out)
        clear hb t0 t1 t2 t3
        go_wp2_with fail
        refine HMA.out.mono ?_
        rintro e w6 ⟨r, b', rfl, hbd6, hk6, hm6⟩
        have HB6 := Lib.hid (hk6.below HB5.out HB5.out.size (fun i hi e => by have := HB2.out.size; omega))
        cases r with
        | false =>
          have HE2 := Lib.hid (show moreP P T l = none from by rw [HE.out, hm6]; rfl)
          clear hbd6 hk6 hm6
          go_wp2_with fail
          go_ret2
          exact ⟨HB6.out, .inl ⟨HE2.out, rfl⟩⟩
        | true =>
          have HE2 := Lib.hid (show moreP P T l = some (bl b' 100) from by rw [HE.out, hm6]; rfl)
          have HTE := Lib.hid (tells_any w6 W2.heap.size w.heap.size b' hbd6)
          clear hbd6 hk6 hm6
          go_wp2_with fail
          refine HTE.out.mono ?_
          rintro e w7 ⟨A7, c7, rfl, hrow, hb7⟩
          have HB7 := Lib.hid (bnext HB6.out hb7)
          have HROW := Lib.hid (hrow.base (B' := w.heap.size) HB6.out.size)
          clear hrow hb7
          go_wp2_with fail
          go_ret2
          exact ⟨HB7.out, .inr ⟨_, A7, c7, HE2.out, rfl, HROW.out⟩⟩
set_option maxRecDepth 100000 in
set_option maxHeartbeats 8000000 in
theorem pmatch_any (p t : Tm) (vp vt : Value) (w : World) (hp : TA w p vp) (ht : TA w t vt) (hnp : nodes p ≤ 1048576) (hnt : nodes t ≤ 1048576) :
    Calls Try.prog 14 #[vp, vt] w (MorePost w (moreP p t [])) := by
  have hp0 := hp
  have ht0 := ht
  obtain ⟨pk, pn, ps, pl, Ap, cp, rfl, rfl, okp, hlp⟩ := hp.open_
  obtain ⟨tk, tn, ts, tl, At, ct, rfl, rfl, okt, hlt⟩ := ht.open_
  obtain ⟨W2, hW2⟩ : ∃ W2, (w.alloc (.cells #[.int .i64 pk, .int .i64 pn, .string ps, .slice Ap pl.length cp] 24)).alloc (.cells #[.int .i64 tk, .int .i64 tn, .string ts, .slice At tl.length ct] 24) = W2 := ⟨_, rfl⟩
  have hb2 : Below w.heap.size w W2 := by rw [← hW2]; exact ballocs (ballocs (Below.refl _ _) _) _
  have HMO := Lib.hid (more_any _ _ [] _ _ none 0 W2 (hp0.later hb2) (ht0.later hb2) (fun i q h => by simp at h) (by simp [maxLen]) hnp hnt (fun q h => by simp at h))
  simp only [List.length_nil] at HMO
  obtain ⟨o, ho⟩ : ∃ o, moreP (.mk pk pn ps pl) (.mk tk tn ts tl) [] = o := ⟨_, rfl⟩
  rw [ho] at HMO ⊢
  have HB2 := Lib.hid hb2
  have HW2 := Lib.hid hW2
  clear hp ht hp0 ht0 okp okt hlp hlt hb2 hW2 hnp hnt ho
  go_enter Try.func14, Try.ntmps14
  go_wp2_with fail
  rw [HW2.out]
  refine HMO.out.mono ?_
  rintro e w3 ⟨hb, (⟨ho, rfl⟩ | ⟨L, A, c, ho, rfl, hrow⟩)⟩
  · have HB3 := Lib.hid (bnext HB2.out hb)
    have HO := Lib.hid ho
    clear hb ho
    go_wp2_with fail
    go_ret2
    exact ⟨HB3.out, .inl ⟨HO.out, rfl⟩⟩
  · have HB3 := Lib.hid (bnext HB2.out hb)
    have HO := Lib.hid ho
    have HROW := Lib.hid (hrow.base (B' := w.heap.size) HB2.out.size)
    clear hb ho hrow
    go_wp2_with fail
    go_ret2
    exact ⟨HB3.out, .inr ⟨L, A, c, HO.out, rfl, HROW.out⟩⟩
end Go.Proofs.Ytlaplakaifmpeaa.Pt
