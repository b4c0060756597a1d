/- (*pattern.binds).match, by its contract. -/
import Derived.Test.YtlaplakaifmpeaaPatRead
import Derived.Deep.RegionHeld3
namespace Go.Proofs.Ytlaplakaifmpeaa.Pt
open Go.RowKit K Go.Shelf
set_option linter.unusedVariables false
set_option linter.unusedSimpArgs false

mutual
noncomputable def matchF : Tm → Tm → Bf → Option Bf
  | .mk k n s l, t, b =>
    if k = 2 then (if s = uscore then some b else match numS s with
      | some q => (match b q with
        | some u => if eqT u t = true then some b else none
        | none => some (upd b q t))
      | none => if eqT (.mk k n s l) t = true then some b else none)
    else if k = 7 ∨ k = 9 then (if t.k = k ∧ t.l.length = l.length then matchL l t.l b else none)
    else if eqT (.mk k n s l) t = true then some b else none
noncomputable def matchL : List Tm → List Tm → Bf → Option Bf
  | [], _, b => some b
  | p :: r, [], b => some b
  | p :: r, t :: r', b => (matchF p t b).bind fun b' => matchL r r' b'
end
theorem matchL_nil (l : List Tm) (b : Bf) : matchL [] l b = some b := by rw [matchL]
theorem matchL_cons (p t : Tm) (r r' : List Tm) (b : Bf) : matchL (p :: r) (t :: r') b = (matchF p t b).bind fun b' => matchL r r' b' := by rw [matchL]
/-- What a match hands on. -/
def MtPost (W : World) (g N : Nat) (m : Option Bf) (e : Ending) (w' : World) : Prop :=
  ∃ (r : Bool) (b' : Bf), e = .returned (.bool r) ∧ BdI w' g N b' ∧ Keep (fun k => k = g) W w' ∧ m = if r = true then some b' else none
def MatchC (p : Tm) : Prop := nodes p ≤ 1048576 → ∀ (t : Tm) (vp vt : Value) (b : Bf) (W : World) (g N : Nat), BdI W g N b → TAt W (· < N) p vp → TAt W (· < N) t vt → nodes t ≤ 1048576 →
  Calls Try.prog 42 #[.pointer (some ⟨g, 0, none⟩), vp, vt] W (MtPost W g N (matchF p t b))
set_option maxRecDepth 100000 in
set_option maxHeartbeats 16000000 in
theorem match_any : ∀ p : Tm, MatchC p := by
  refine Tm.ind fun p ih hnp t vp vt b W g N hb hp ht hnt => ?_
  have hp0 := hp
  have ht0 := ht
  obtain ⟨Ap, cp, rfl, okp, hlp⟩ := hp.inv
  obtain ⟨At, ct, rfl, okt, hlt⟩ := ht.inv
  obtain ⟨k, n, s, l⟩ := p
  obtain ⟨tk, tn, ts, tl⟩ := t
  unfold tv at hp0 ht0 ⊢
  simp only [Tm.k_mk, Tm.n_mk, Tm.s_mk, Tm.l_mk] at hp0 ht0 ih hlp hlt ⊢
  obtain ⟨W2, hW2⟩ : ∃ W2, (W.alloc (.cells #[.int .i64 k, .int .i64 n, .string s, .slice Ap l.length cp] 24)).alloc (.cells #[.int .i64 tk, .int .i64 tn, .string ts, .slice At tl.length ct] 24) = W2 := ⟨_, rfl⟩
  have hb2 : Below W.heap.size W W2 := by rw [← hW2]; exact ballocs (ballocs (Below.refl _ _) _) _
  have hgp : Blk W2 W.heap.size 24 #[.int .i64 k, .int .i64 n, .string s, .slice Ap l.length cp] := by rw [← hW2]; exact (Blk.new _ _ _).alloc _
  have hgt : Blk W2 (W.heap.size + 1) 24 #[.int .i64 tk, .int .i64 tn, .string ts, .slice At tl.length ct] := by
    rw [← hW2]
    have := Blk.new (W.alloc (.cells #[.int .i64 k, .int .i64 n, .string s, .slice Ap l.length cp] 24)) 24 #[.int .i64 tk, .int .i64 tn, .string ts, .slice At tl.length ct]
    simp only [World.size_alloc] at this
    exact this
  have hgl := hb.lt
  have hNg := hb.1
  have HBD := Lib.hid (hb.later hb2)
  have hN2 : N ≤ W.heap.size := by omega
  have HP := Lib.hid (show TAt W2 (· < N) (.mk k n s l) _ from hp0.keep fun q hq => hb2.cell (Nat.lt_of_lt_of_le hq hN2))
  have HT := Lib.hid (show TAt W2 (· < N) (.mk tk tn ts tl) _ from ht0.keep fun q hq => hb2.cell (Nat.lt_of_lt_of_le hq hN2))
  have HLP := Lib.hid (show TsAt W2 (· < N) Ap l from hlp.keep fun q hq => hb2.cell (Nat.lt_of_lt_of_le hq hN2))
  have HLT := Lib.hid (show TsAt W2 (· < N) At tl from hlt.keep fun q hq => hb2.cell (Nat.lt_of_lt_of_le hq hN2))
  have HGP := Lib.hid hgp
  have HGT := Lib.hid hgt
  have HB2 := Lib.hid hb2
  have HIH := Lib.hid ih
  have HW2 := Lib.hid hW2
  have HNP := Lib.hid hnp
  have HNT := Lib.hid hnt
  have hz2 := hb2.size
  have hz3 : W.heap.size + 1 < W2.heap.size := hgt.lt
  have HK := Lib.hid (show ∀ w', Keep (fun k => k = g) W2 w' → Keep (fun k => k = g) W w' from fun w' h => (Keep.new (F := fun k => k = g) hb2).trans h (fun _ _ h => h))
  obtain ⟨p0, p1, p2, p3, _, _, _, _⟩ := hgp.four
  obtain ⟨t0, t1, t2, t3, _, _, _, _⟩ := hgt.four
  have HS := Lib.hid (show ∀ u vu wx, TAt wx (· < N) u vu → nodes u ≤ 1048576 → Keep (fun k => k = g) W2 wx → Calls Try.prog 62 #[vu, .agg #[.int .i64 tk, .int .i64 tn, .string ts, .slice At tl.length ct]] wx fun e w' => e = .returned (.bool (eqT u (.mk tk tn ts tl))) ∧ Below wx.heap.size wx w' from fun u vu wx hu hnu hk => same_any u (.mk tk tn ts tl) vu _ wx (hu.mono (fun b hb => by have := hk.size; omega)) ((HT.out.keep (w' := wx) (fun q hq => hk.cell (by have : q.block < N := hq; omega) (fun e => by have : q.block < N := hq; omega))).mono (fun b hb => by have := hk.size; omega)) hnu)
  clear hp ht hp0 ht0 okp okt hlp hlt hb hb2 hgp hgt hW2 ih hnp hnt
  by_cases h2 : k = 2
  · subst h2
    by_cases hus : s = uscore
    · have hu1 : (s.toList == [95]) = true := by rw [hus, Lib.toList_data]; rfl
      have hu2 : s.toList = [95] := by rw [hus, Lib.toList_data]; rfl
      have HE := Lib.hid (show matchF (.mk 2 n s l) (.mk tk tn ts tl) b = some b from by rw [matchF]; simp [hus])
      clear hus
      go_enter Try.func42, Try.ntmps42
      go_wp2_with fail
      go_ret
      rw [HW2.out]
      exact ⟨true, b, rfl, HBD.out, HK.out _ (Keep.refl _ _), HE.out⟩
    · have hu1 := us_ne hus
      have HNS := Lib.hid (fun w => number_any s (TAt.inv HP.out).choose_spec.choose_spec.2.1.ws w)
      cases hns : numS s with
      | none =>
        have HE := Lib.hid (show matchF (.mk 2 n s l) (.mk tk tn ts tl) b = if eqT (.mk 2 n s l) (.mk tk tn ts tl) = true then some b else none from by rw [matchF]; simp [hus, hns])
        rw [hns] at HNS
        unfold numV at HNS
        clear hus hns
        go_enter Try.func42, Try.ntmps42
        go_wp2_with fail
        rw [HW2.out]
        refine (HNS.out W2).mono ?_
        rintro e w3 ⟨rfl, hb3⟩
        have HB3 := Lib.hid hb3
        obtain ⟨p0', p1', p2', p3', _, _, _, _⟩ := (HGP.out.below hb3 HGP.out.lt).four
        obtain ⟨t0', t1', t2', t3', _, _, _, _⟩ := (HGT.out.below hb3 HGT.out.lt).four
        have HC := Lib.hid (HS.out _ _ w3 (HP.out.keep (w' := w3) (fun q hq => hb3.cell (by have : q.block < N := hq; omega))) HNP.out (Keep.new hb3))
        clear hb3
        go_wp2_with fail
        refine HC.out.mono ?_
        rintro e w4 ⟨rfl, hb4⟩
        have HB4 := Lib.hid (bnext HB3.out hb4)
        clear hb4
        go_wp2_with fail
        go_ret
        exact ⟨_, b, rfl, HBD.out.later HB4.out, HK.out _ (Keep.new HB4.out), HE.out⟩
      | some q =>
        rw [hns] at HNS
        unfold numV at HNS
        have hq : q < 100 := numL_lt hns
        cases hbq : b q with
        | some u =>
          have HE := Lib.hid (show matchF (.mk 2 n s l) (.mk tk tn ts tl) b = if eqT u (.mk tk tn ts tl) = true then some b else none from by rw [matchF]; simp [hus, hns, hbq])
          clear hus hns
          go_enter Try.func42, Try.ntmps42
          go_wp2_with fail
          rw [HW2.out]
          refine (HNS.out W2).mono ?_
          rintro e w3 ⟨rfl, hb3⟩
          have HB3 := Lib.hid hb3
          have HBD3 := Lib.hid (HBD.out.later hb3)
          have HHAS := Lib.hid (HBD3.out.has hq)
          rw [hbq] at HHAS
          obtain ⟨t0', t1', t2', t3', _, _, _, _⟩ := (HGT.out.below hb3 HGT.out.lt).four
          obtain ⟨xk, xm, xs, xA, xl, xc, ⟨c0, c1, c2, c3⟩, _, hx, _⟩ := HBD3.out.2.2 q hq
          obtain ⟨hxu, hxn⟩ := hx u hbq
          have HC := Lib.hid (HS.out u _ w3.drew (hxu.keep (w' := w3.drew) fun _ _ => rfl) hxn ((Keep.new hb3).drew))
          clear hb3 hbq hx hxu hxn
          go_wp2_with (first | (go_at_call 53; refine HHAS.out.mono ?_; rintro e w' ⟨rfl, rfl⟩) | fail)
          go_region_with (go_at_call 62; refine HC.out.mono ?_; rintro e w4 ⟨rfl, hb4⟩; have HB4 := Lib.hid (bnext HB3.out (bundrew hb4)); clear hb4)
          all_goals
            go_wp2_with fail
            go_ret
            exact ⟨_, b, rfl, HBD.out.later HB4.out, HK.out _ (Keep.new HB4.out), HE.out⟩
        | none =>
          have HE := Lib.hid (show matchF (.mk 2 n s l) (.mk tk tn ts tl) b = some (upd b q (.mk tk tn ts tl)) from by rw [matchF]; simp [hus, hns, hbq])
          clear hus hns
          go_enter Try.func42, Try.ntmps42
          go_wp2_with fail
          rw [HW2.out]
          refine (HNS.out W2).mono ?_
          rintro e w3 ⟨rfl, hb3⟩
          have HB3 := Lib.hid hb3
          have HBD3 := Lib.hid (HBD.out.later hb3)
          have HHAS := Lib.hid (HBD3.out.has hq)
          rw [hbq] at HHAS
          have HADD := Lib.hid (HBD3.out.add hq)
          have HGT3 := Lib.hid (HGT.out.below hb3 HGT.out.lt)
          clear hb3 hbq
          go_wp2_with (first
            | (go_at_call 53; refine HHAS.out.mono ?_; rintro e w' ⟨rfl, rfl⟩)
            | fail)
          refine HADD.out.mono ?_
          rintro e w5 ⟨rfl, hj5, hk5, hz5⟩
          have hk25 : Keep (fun k => k = g) W2 w5 := (Keep.new (F := fun k => k = g) HB3.out).trans hk5 (fun _ _ h => h)
          obtain ⟨t0', t1', t2', t3', _, _, _, _⟩ := (HGT3.out.keep hk5 (by omega)).four
          obtain ⟨_, _, _, _, _, _, ⟨s0, s1, s2, s3⟩, ⟨f0, f1, f2, f3⟩, _, _⟩ := hj5.2.2 q hq
          have HF := Lib.hid (hj5.put hq (show TAt w5 (· < N) (.mk tk tn ts tl) _ from HT.out.keep (w' := w5) (fun q hq => hk25.cell (by have : q.block < N := hq; omega) (fun e => by have : q.block < N := hq; omega))) HNT.out)
          have HK25 := Lib.hid hk25
          have hne : W.heap.size + 1 ≠ g := by omega
          clear hj5 hk5 hz5 hk25
          go_wp2_with fail
          go_region
          all_goals
            go_wp2_with fail
            go_ret
            exact ⟨true, _, rfl, HF.out.later (bdrew_any (Below.refl _ _)), HK.out _ ((HK25.out.trans (put4at_keeps _ _ _ _ _ _ _) (fun _ _ h => h)).drew), HE.out⟩
  · have hk2 : (k == 2) = false := by rw [beq_eq_false_iff_ne]; exact h2
    by_cases h79 : k = 7 ∨ k = 9
    · by_cases hsm : tk = k ∧ tl.length = l.length
      · obtain ⟨rfl, hll⟩ := hsm
        have HE := Lib.hid (show matchF (.mk tk n s l) (.mk tk tn ts tl) b = matchL l tl b from by rw [matchF]; simp [h2, h79, hll])
        have hlm : l.length ≤ 1048576 := by
          have h1 := HNP.out
          rw [nodes_mk] at h1
          have := nodesL_len l
          omega
        have HIN := Lib.hid (show ∀ i pi ti, l[i]? = some pi → tl[i]? = some ti → ∀ b' wx vp vt, BdI wx g N b' → Keep (fun k => k = g) W2 wx → TAt W2 (· < N) pi vp → TAt W2 (· < N) ti vt → Calls Try.prog 42 #[.pointer (some ⟨g, 0, none⟩), vp, vt] wx (MtPost wx g N (matchF pi ti b')) from fun i pi ti hpi hti b' wx vp vt hbd hk h1 h2 => by
          have m1 := nodesL_mem (List.mem_of_getElem? hpi)
          have m2 := nodesL_mem (List.mem_of_getElem? hti)
          have n1 := HNP.out
          have n2 := HNT.out
          rw [nodes_mk] at n1 n2
          have hold : ∀ q : Addr, q.block < N → wx.cell? q = W2.cell? q := fun q hq => hk.cell (by omega) (fun e => by omega)
          exact HIH.out pi (List.mem_of_getElem? hpi) (by omega) ti vp vt b' wx g N hbd (h1.keep hold) (h2.keep hold) (by omega))
        have hlq : (tl.length : Int) = (l.length : Int) := by omega
        rw [hll] at t3 HGT HW2 HT HS ⊢
        have HLL := Lib.hid hll
        clear hll hlq
        rcases h79 with rfl | rfl
        all_goals
          go_enter Try.func42, Try.ntmps42
          go_wp2_with fail
          rw [HW2.out]
          go_loopw [71] (fun x wr => ∃ (i : Nat) (b' : Bf), i ≤ l.length ∧ x = .int .i64 (i : Int) ∧ BdI wr g N b' ∧ Keep (fun k => k = g) W2 wr ∧ matchL l tl b = matchL (l.drop i) (tl.drop i) b') (fun x _ => l.length - (intOf x).toNat)
          case atStart => exact ⟨0, b, Nat.zero_le _, rfl, HBD.out, Keep.refl _ _, rfl⟩
          case round =>
            obtain ⟨i, b', hi, rfl, hbd, hk, hm⟩ := hrel
            have HBDi := Lib.hid hbd; have HKi := Lib.hid hk; have HMi := Lib.hid hm
            have hsz := hk.size
            by_cases hlt : i < l.length
            · obtain ⟨pi, hpi⟩ : ∃ u, l[i]? = some u := ⟨_, List.getElem?_eq_getElem hlt⟩
              obtain ⟨ti, hti⟩ : ∃ u, tl[i]? = some u := ⟨_, List.getElem?_eq_getElem (by rw [HLL.out]; exact hlt)⟩
              have hold : ∀ q : Addr, q.block < N → wr.cell? q = W2.cell? q := fun q hq => hk.cell (by omega) (fun e => by omega)
              obtain ⟨bp, op, Aq, cq, rfl, hbp, d0, d1, d2, d3, okq, hlq⟩ := (HLP.out.keep hold).at_ hpi
              obtain ⟨bt, ot, Ar, cr, rfl, hbt, e0, e1, e2, e3, okr, hlr⟩ := (HLT.out.keep hold).at_ hti
              have HC := Lib.hid (HIN.out i pi ti hpi hti b' wr.drew (.agg #[.int .i64 pi.k, .int .i64 pi.n, .string pi.s, .slice Aq pi.l.length cq]) (.agg #[.int .i64 ti.k, .int .i64 ti.n, .string ti.s, .slice Ar ti.l.length cr]) (hbd.later (bdrew_any (Below.refl _ _))) hk.drew ((TAt.of okq hlq).keep (w' := W2) (fun q hq => (hold q hq).symm)) ((TAt.of okr hlr).keep (w' := W2) (fun q hq => (hold q hq).symm)))
              have HST := Lib.hid (show matchL l tl b = (matchF pi ti b').bind fun b2 => matchL (l.drop (i + 1)) (tl.drop (i + 1)) b2 from by
                obtain ⟨h1, h2⟩ := List.getElem?_eq_some_iff.1 hpi
                obtain ⟨h3, h4⟩ := List.getElem?_eq_some_iff.1 hti
                rw [hm, List.drop_eq_getElem_cons h1, List.drop_eq_getElem_cons h3, h2, h4, matchL_cons])
              obtain ⟨_, _, _, a3, _, _, _, _⟩ := (HGP.out.keep hk (by omega)).four
              obtain ⟨_, _, _, a4, _, _, _, _⟩ := (HGT.out.keep hk (by omega)).four
              have hi0 : (0 : Int) ≤ (i : Int) := by omega
              have hil : (i : Int) < (l.length : Int) := by omega
              have HSX := Lib.hid (show ∀ wx, Keep (fun k => k = g) wr wx → (wx.cell? ⟨W.heap.size, 3, none⟩ = some (.slice (some ⟨bp, op, none⟩) l.length cp) ∧ wx.cell? ⟨W.heap.size + 1, 3, none⟩ = some (.slice (some ⟨bt, ot, none⟩) l.length ct)) ∧ (wx.cell? ⟨bp, op + i * 4, none⟩ = some (.int .i64 pi.k) ∧ wx.cell? ⟨bp, op + i * 4 + 1, none⟩ = some (.int .i64 pi.n) ∧ wx.cell? ⟨bp, op + i * 4 + 2, none⟩ = some (.string pi.s) ∧ wx.cell? ⟨bp, op + i * 4 + 3, none⟩ = some (.slice Aq pi.l.length cq)) ∧ (wx.cell? ⟨bt, ot + i * 4, none⟩ = some (.int .i64 ti.k) ∧ wx.cell? ⟨bt, ot + i * 4 + 1, none⟩ = some (.int .i64 ti.n) ∧ wx.cell? ⟨bt, ot + i * 4 + 2, none⟩ = some (.string ti.s) ∧ wx.cell? ⟨bt, ot + i * 4 + 3, none⟩ = some (.slice Ar ti.l.length cr)) from fun wx hx => by
                have h1 := hgl
                have ho : ∀ q : Addr, q.block < N → wx.cell? q = wr.cell? q := fun q hq => hx.cell (by omega) (fun e => by omega)
                obtain ⟨_, _, _, x3, _, _, _, _⟩ := ((HGP.out.keep HKi.out (by omega)).keep hx (by omega)).four
                obtain ⟨_, _, _, x4, _, _, _, _⟩ := ((HGT.out.keep HKi.out (by omega)).keep hx (by omega)).four
                exact ⟨⟨x3, x4⟩, ⟨(ho ⟨bp, op + i * 4, none⟩ hbp).trans d0, (ho ⟨bp, op + i * 4 + 1, none⟩ hbp).trans d1, (ho ⟨bp, op + i * 4 + 2, none⟩ hbp).trans d2, (ho ⟨bp, op + i * 4 + 3, none⟩ hbp).trans d3⟩, ⟨(ho ⟨bt, ot + i * 4, none⟩ hbt).trans e0, (ho ⟨bt, ot + i * 4 + 1, none⟩ hbt).trans e1, (ho ⟨bt, ot + i * 4 + 2, none⟩ hbt).trans e2, (ho ⟨bt, ot + i * 4 + 3, none⟩ hbt).trans e3⟩⟩)
              clear hbd hk hm hpi hti hold okq hlq okr hlr hbp hbt
              go_wp2_with fail
              go_region_held3 (fun wx => (wx.cell? ⟨W.heap.size, 3, none⟩ = some (.slice (some ⟨bp, op, none⟩) l.length cp) ∧ wx.cell? ⟨W.heap.size + 1, 3, none⟩ = some (.slice (some ⟨bt, ot, none⟩) l.length ct)) ∧ (wx.cell? ⟨bp, op + i * 4, none⟩ = some (.int .i64 pi.k) ∧ wx.cell? ⟨bp, op + i * 4 + 1, none⟩ = some (.int .i64 pi.n) ∧ wx.cell? ⟨bp, op + i * 4 + 2, none⟩ = some (.string pi.s) ∧ wx.cell? ⟨bp, op + i * 4 + 3, none⟩ = some (.slice Aq pi.l.length cq)) ∧ (wx.cell? ⟨bt, ot + i * 4, none⟩ = some (.int .i64 ti.k) ∧ wx.cell? ⟨bt, ot + i * 4 + 1, none⟩ = some (.int .i64 ti.n) ∧ wx.cell? ⟨bt, ot + i * 4 + 2, none⟩ = some (.string ti.s) ∧ wx.cell? ⟨bt, ot + i * 4 + 3, none⟩ = some (.slice Ar ti.l.length cr))) (first
                | exact HSX.out _ ((Keep.refl _ _).drew)
                | exact HSX.out _ HKW.out
                | assumption) (first
                | (go_at_call 42
                   refine HC.out.mono ?_
                   rintro e w4 ⟨r, b2, rfl, hbd4, hk4, hm4⟩
                   have HBD4 := Lib.hid hbd4
                   have HKW := Lib.hid (show Keep (fun k => k = g) wr w4 from (Keep.refl _ _).drew.trans hk4 (fun _ _ h => h))
                   have HM4 := Lib.hid hm4
                   clear hbd4 hk4 hm4)
                | fail)
              have HK4 := Lib.hid (HKi.out.trans HKW.out (fun _ _ h => h))
              cases r with
              | true =>
                have HST2 := Lib.hid (show matchL l tl b = matchL (l.drop (i + 1)) (tl.drop (i + 1)) b2 from by rw [HST.out, HM4.out]; rfl)
                go_wp2_with fail
                go_roundw
                case rel => exact ⟨i + 1, b2, by omega, by go_num, HBD4.out, HK4.out, HST2.out⟩
                case measure => simp [intOf]; omega
              | false =>
                have HST2 := Lib.hid (show matchL l tl b = none from by rw [HST.out, HM4.out]; rfl)
                go_wp2_with fail
                go_ret
                exact ⟨false, b2, rfl, HBD4.out, HK.out _ HK4.out, by rw [HE.out, HST2.out]; rfl⟩
            · obtain rfl : i = l.length := by omega
              have HE2 := Lib.hid (show matchL l tl b = some b' from by rw [hm, List.drop_length, matchL_nil])
              clear hbd hk hm
              go_wp2_with fail
              go_ret
              exact ⟨true, b', rfl, HBDi.out, HK.out _ HKi.out, by rw [HE.out, HE2.out]; rfl⟩
      · have HE := Lib.hid (show matchF (.mk k n s l) (.mk tk tn ts tl) b = none from by rw [matchF]; simp [h2, h79, hsm])
        have HFIN := Lib.hid (show MtPost W g N none (.returned (.bool false)) W2 from ⟨false, b, rfl, HBD.out, HK.out _ (Keep.refl _ _), rfl⟩)
        rw [HE.out]
        by_cases htk : tk = k
        · have hln : ¬ tl.length = l.length := fun e => hsm ⟨htk, e⟩
          subst htk
          have hb1 : ((tl.length : Int) != (l.length : Int)) = true := by rw [bne_iff_ne]; omega
          clear hsm hln
          rcases h79 with rfl | rfl
          all_goals
            go_enter Try.func42, Try.ntmps42
            go_wp2_with fail
            go_ret
            rw [HW2.out]
            exact HFIN.out
        · clear hsm
          rcases h79 with rfl | rfl
          all_goals
            go_enter Try.func42, Try.ntmps42
            go_wp2_with fail
            go_ret
            rw [HW2.out]
            exact HFIN.out
    · have hk7 : (k == 7) = false := by rw [beq_eq_false_iff_ne]; exact fun e => h79 (.inl e)
      have hk9 : (k == 9) = false := by rw [beq_eq_false_iff_ne]; exact fun e => h79 (.inr e)
      have HE := Lib.hid (show matchF (.mk k n s l) (.mk tk tn ts tl) b = if eqT (.mk k n s l) (.mk tk tn ts tl) = true then some b else none from by rw [matchF]; simp [h2, h79])
      have HC := Lib.hid (HS.out _ _ W2 HP.out HNP.out (Keep.refl _ _))
      clear h2 h79
      go_enter Try.func42, Try.ntmps42
      go_wp2_with fail
      rw [HW2.out]
      refine HC.out.mono ?_
      rintro e w4 ⟨rfl, hb4⟩
      have HB4 := Lib.hid hb4
      clear hb4
      go_wp2_with fail
      go_ret
      exact ⟨_, b, rfl, HBD.out.later HB4.out, HK.out _ (Keep.new HB4.out), HE.out⟩
end Go.Proofs.Ytlaplakaifmpeaa.Pt
