/- Put, walked. -/
import Derived.Test.YtnedjmjcbmoknaaHpPut
import Derived.Deep.RegionHeld3
namespace Go.Proofs.Ytnedjmjcbmoknaa.Hp
open Go.RowKit K At Wd Fl
set_option linter.unusedVariables false
set_option linter.unusedSimpArgs false

set_option maxRecDepth 100000 in
set_option maxHeartbeats 8000000 in
theorem put_any (gh g : Nat) (L : List ByteArray) (lim : Int) (H : List It) (t : Tm) (v : Value) (w : World) (F G : Nat → Prop) (h : Hp w F gh g L lim H) (ht : TAt w G t v) (hG : ∀ b, G b → b < w.heap.size ∧ ¬ F b) (hn : nodes t ≤ 1048576) :
    Calls Try.prog 14 #[.pointer (some ⟨gh, 0, none⟩), v] w fun e w' => e = .returned (.tuple #[.int .u64 (putW L lim H t), .int .i64 (putE L lim H t)]) ∧ HMoved w F gh g (flL L t) lim (putH L lim H t) w' := by
  obtain ⟨A, c, rfl, ok, hts⟩ := ht.inv
  obtain ⟨w0, hw0⟩ : ∃ x, w.alloc (.cells #[.int .i64 t.k, .int .i64 t.n, .string t.s, .slice A t.l.length c] 28) = x := ⟨_, rfl⟩
  have hb0 : Below w.heap.size w w0 := by rw [← hw0]; exact ballocs (Below.refl _ _) _
  have hBT : Blk w0 w.heap.size 28 #[.int .i64 t.k, .int .i64 t.n, .string t.s, .slice A t.l.length c] := by rw [← hw0]; exact Blk.new _ _ _
  obtain ⟨hHB, FT, v, bm, N, D, hq, hN⟩ := h.below hb0
  obtain ⟨Av, cv, rfl, hc1, hc2, c0, c1, c2, c3⟩ := hq.cells
  have HNO := Lib.hid (hnone_yes gh bm w0 c3)
  have HFL := Lib.hid (flatten_any g L t (tv t A c) w0.drew FT G (hq.tab.keep (G := fun _ => False) ⟨rfl, rfl, rfl, Nat.le_refl _, fun _ _ _ => rfl⟩ (fun _ _ h => h)) (ht.under (btodrew hb0) (fun b hb => (hG b hb).1)) (fun b hb => ⟨Nat.lt_of_lt_of_le (hG b hb).1 hb0.size, fun hf => (hG b hb).2 (hq.ft b hf)⟩) hn)
  obtain ⟨p0, p1, p2, p3, _, _, _, _⟩ := hBT.four
  have HQ := Lib.hid hq
  have HHB := Lib.hid hHB
  have HN := Lib.hid hN
  have HB0 := Lib.hid hb0
  have HFlt := Lib.hid h.lt
  have HSX := Lib.hid (show ∀ (wx : World) (X : Unit), Keep FT w0.drew wx → wx.cell? ⟨gh, 0, none⟩ = some (.pointer (some ⟨g, 0, none⟩)) ∧ wx.cell? ⟨w.heap.size, 0, none⟩ = some (.int .i64 t.k) ∧ wx.cell? ⟨w.heap.size, 1, none⟩ = some (.int .i64 t.n) ∧ wx.cell? ⟨w.heap.size, 2, none⟩ = some (.string t.s) ∧ wx.cell? ⟨w.heap.size, 3, none⟩ = some (.slice A t.l.length c) from fun wx _ hk => by
    have hl : w.heap.size < w0.heap.size := hBT.lt
    have hnT : ¬ FT w.heap.size := fun hf => by have := h.lt _ (hq.ft _ hf); omega
    have hk' : Keep FT w0 wx := ⟨hk.os, hk.tape, hk.output, hk.size, hk.block⟩
    refine ⟨?_, ?_, ?_, ?_, ?_⟩
    · rw [hk'.cell (World.block_lt_of_cell? _ _ c0) hq.ng]; exact c0
    · rw [hk'.cell hl hnT]; exact p0
    · rw [hk'.cell hl hnT]; exact p1
    · rw [hk'.cell hl hnT]; exact p2
    · rw [hk'.cell hl hnT]; exact p3)
  unfold tv at HFL ⊢
  clear h ht hts hb0 hG ok hn hBT hq hHB hN
  go_enter Try.func14, Try.ntmps14
  go_wp2_with fail
  clear hw0
  refine HNO.out.mono ?_
  rintro e w1 ⟨rfl, h1⟩
  obtain rfl : w0 = w1 := h1.symm
  go_wp2_with fail
  go_region_held3 (fun wx => wx.cell? ⟨gh, 0, none⟩ = some (.pointer (some ⟨g, 0, none⟩)) ∧ wx.cell? ⟨w.heap.size, 0, none⟩ = some (.int .i64 t.k) ∧ wx.cell? ⟨w.heap.size, 1, none⟩ = some (.int .i64 t.n) ∧ wx.cell? ⟨w.heap.size, 2, none⟩ = some (.string t.s) ∧ wx.cell? ⟨w.heap.size, 3, none⟩ = some (.slice A t.l.length c)) (first
    | exact ⟨c0, p0, p1, p2, p3⟩
    | exact HSX.out _ () HP.out.2.2.1
    | assumption) (first
    | (go_at_call 33; refine HFL.out.mono ?_; intro e w2 hp; obtain ⟨FT2, sv, rfl, hp⟩ := hp; have HP := Lib.hid hp; clear hp)
    | fail)
  clear c0 c1 c2 c3 p0 p1 p2 p3
  obtain ⟨hT2, hF2, hK2, hR2, hd2⟩ := HP.out
  obtain ⟨hq2, hk02⟩ := HQ.out.flat (w' := w2) (FT' := FT2) (L' := flL L t) ⟨hK2.os, hK2.tape, hK2.output, hK2.size, hK2.block⟩ hT2 hF2
  have hk2 : Keep F w w2 := (Keep.new (F := F) HB0.out).trans hk02 (fun i _ hf => hf)
  have hFT2 : ∀ k, FT2 k → F k ∨ w.heap.size ≤ k := fun k hk => by
    rcases hF2 k hk with h | h
    · exact .inl (HQ.out.ft k h)
    · exact .inr (Nat.le_trans HB0.out.size h)
  have h4 := Tab.le4 hT2
  have HHB2 := Lib.hid (put_hb (t := t) HHB.out h4)
  have hmv : ∀ w', Below w2.heap.size w2 w' → ¬ putOk L lim H t → HMoved w F gh g (flL L t) lim (putH L lim H t) w' := fun w' hb' hno => by
    have h1 := HHB2.out
    have hpH : putH L lim H t = H := by unfold putH; rw [if_neg hno]
    rw [hpH] at h1 ⊢
    exact ⟨_, ⟨h1, FT2, _, bm, N, D, hq2.below hb', HN.out⟩, fun k hk => by
      rcases hk with h | h
      · exact .inl h
      · exact hFT2 k h, hk2.trans (Keep.new (F := fun _ => False) hb') (fun _ _ h => h.elim)⟩
  have HMV := Lib.hid hmv
  have HQ2 := Lib.hid hq2
  have HK2 := Lib.hid hk2
  have HFT2 := Lib.hid hFT2
  have HR2 := Lib.hid hR2
  have HD2 := Lib.hid hd2
  have HH4 := Lib.hid h4
  clear hT2 hF2 hK2 hR2 hd2 hq2 hk02 hk2 hFT2 h4 hmv
  by_cases hE : flE L t = 0
  · obtain ⟨hchk, hnum, hLn⟩ := flE_ok hE
    have hfl : flW L t = ownW (ix (flL L t)) t 1 :: lay (ix (flL L t)) t 1 := by unfold flW; rw [if_pos hE, hLn]; rfl
    have hats := nums_in t L hnum
    rw [← hLn] at hats
    obtain ⟨hsnd, hw6⟩ := chk_snd hchk
    have hrng := rng_ix HH4.out hats
    have hlay := lay_len (ix (flL L t)) t 1
    obtain ⟨fl, hfl2⟩ : ∃ fl, flW L t = fl := ⟨_, rfl⟩
    have HU64L := Lib.hid (flat_u64 (f := ix (flL L t)) hsnd (p := 1))
    have hlen : fl.length = 1 + (lay (ix (flL L t)) t 1).length := by rw [← hfl2, hfl]; simp; omega
    have hRR := HR2.out
    rw [hfl2] at hRR
    obtain ⟨r, cr, rfl, k1, k2, k3, k4, k5⟩ := ownsRow_at hRR (k := 0) (by omega)
    have hnr : ¬ (F r ∨ FT2 r) := fun h => by
      rcases h with h | h
      · have := HFlt.out r h; have := HB0.out.size; have k3 : w0.heap.size ≤ r := k3; omega
      · exact HD2.out r rfl h
    have hps : PS w F FT2 gh g (flL L t) lim H (.slice Av (hW H).length cv) bm N r cr fl (((hW H).length : Int) - 1) w2 0 0 :=
      ⟨⟨N, D, by simpa [ups] using HQ2.out, by simp⟩, by rw [mrow_zero]; exact ownsRow_base hRR (fun x hx => by injection hx with hx; subst hx; exact Nat.le_trans HB0.out.size k3), HK2.out, hnr⟩
    obtain ⟨z, hz⟩ : ∃ z : Int, ((hW H).length : Int) = z := ⟨_, rfl⟩
    rw [hz] at hps
    have HPS := Lib.hid hps
    have hq3 := HQ2.out
    obtain ⟨_, _, hAv, _, _, c0, c1, c2, c3⟩ := hq3.cells
    injection hAv with e1 _ e2
    subst e1 e2
    obtain ⟨nl, hnl⟩ : ∃ nl : Int, (fl.length : Int) = nl := ⟨_, rfl⟩
    have hlm := HHB.out.lim1
    have hlz := HHB.out.hl
    have g1 : 0 ≤ z := by omega
    have g2 : z ≤ 16777216 := by omega
    have g3 : 1 ≤ nl := by omega
    have g4 : nl ≤ 65537 := by omega
    have hflx : fl = ownW (ix (flL L t)) t 1 :: lay (ix (flL L t)) t 1 := hfl2.symm.trans hfl
    clear hfl
    have HE := Lib.hid hE
    rw [hfl2] at *
    rw [hE]
    have HLEN := Lib.hid hlen; have HFL1 := Lib.hid hflx; have HSND := Lib.hid hsnd; have HRNG := Lib.hid hrng; have HW6 := Lib.hid hw6; have HATS := Lib.hid hats
    have HU64 := Lib.hid (show ∀ u ∈ fl, U64 u from fun u hu => HU64L.out u (by rw [← HFL1.out]; exact hu))
    clear hE hlen hflx hsnd hrng hw6 hats hlay hchk hnum hLn hRR k5 hps hq3 hfl2
    by_cases hfit : z + nl - 1 ≤ lim
    · have HFIT := Lib.hid hfit
      have b1 : decide (lim < z + nl - 1) = false := decide_eq_false (by omega)
      clear hfit
      go_wp2_with fail
      go_quiet (fail)
      go_wp2_with fail
      go_loopw [52] (fun i wr => ∃ k : Nat, k ≤ fl.length ∧ i = .int .i64 (k : Int) ∧ PS w F FT2 gh g (flL L t) lim H (.slice Av (hW H).length cv) bm N r cr fl (z - 1) wr k k) (fun i _ => fl.length - (intOf i).toNat)
      case atStart => exact ⟨0, Nat.zero_le _, rfl, HPS.out.below (fdrewN (Below.refl _ _) _)⟩
      case round =>
        obtain ⟨k, hk, rfl, hps⟩ := hrel
        have HP1 := Lib.hid hps
        clear hps c0 c1 c2 c3
        by_cases hlt : k < fl.length
        · have hkn : (k : Int) < nl := by omega
          have hk0 : (0 : Int) ≤ (k : Int) := by omega
          obtain ⟨u, hu⟩ : ∃ u, fl[k]? = some u := ⟨_, List.getElem?_eq_getElem hlt⟩
          have hum := List.mem_of_getElem? hu
          have hU : U64 u := HU64.out u hum
          have HU := Lib.hid hU
          have HUK := Lib.hid hu
          have HUM := Lib.hid hum
          obtain ⟨kk, hkk⟩ : ∃ x, unK u = x := ⟨_, rfl⟩
          obtain ⟨nn, hnn⟩ : ∃ x, unN u = x := ⟨_, rfl⟩
          obtain ⟨ee, hee⟩ : ∃ x, unE u = x := ⟨_, rfl⟩
          obtain ⟨r1, r2, r3, r4, r5, r6⟩ := un_range hU
          rw [hkk] at r1 r3 r4
          rw [hnn] at r2 r5 r6
          have HUN := Lib.hid (fun w => unpack_as (k := kk) (n := nn) (e := ee) HU.out hkk hnn hee w)
          have HKK := Lib.hid hkk
          have HNN := Lib.hid hnn
          obtain ⟨hc, hf⟩ := HP1.out.at_ hu
          clear hU hu hum hkk hnn hee
          go_wp2_with fail
          refine (HUN.out _).mono ?_
          rintro e w3 ⟨rfl, hb3⟩
          have HP3 := Lib.hid (HP1.out.below hb3)
          clear hb3 hc hf
          by_cases hbx : boxd u = true
          · have HBOX := Lib.hid (fun w => hbx ▸ boxed_any u HU.out.1 HU.out.2 w)
            obtain ⟨y1, y2, y3, y4⟩ := reb_box (p := (hW H).length) HSND.out HRNG.out (by have := HLEN.out; have := HHB.out.hl; omega) (by have := HLEN.out; omega) (by rw [← HFL1.out]; exact HUM.out) hbx
            rw [hz] at y1 y2 y3 y4
            have HY := Lib.hid (show PS w F FT2 gh g (flL L t) lim H (.slice Av (hW H).length cv) bm N r cr fl (z - 1) w3 k k from HP3.out)
            rw [HKK.out, HNN.out] at y1
            have HR3 := Lib.hid (And.intro y2 (And.intro y3 y4))
            have HBX := Lib.hid hbx
            obtain ⟨y, hy⟩ : ∃ y, packW kk (nn + (z - 1)) = y := ⟨_, rfl⟩
            have wfn : (Lit.int .i64 (nn + (z - 1))).wf = true := WalkArith.wf_i64 (by omega)
            have HPK := Lib.hid (fun w => pack_any kk (nn + (z - 1)) r1 wfn w)
            rw [hy] at HPK
            have HYR := Lib.hid (show reb (z - 1) u = y from by rw [y1, hy])
            clear hbx y1 y2 y3 y4 hy HY
            go_wp2_with (first
              | (go_at_call 35; refine (HBOX.out _).mono ?_; rintro e w4 ⟨rfl, h2⟩; obtain rfl := h2.symm)
              | fail)
            refine (HPK.out _).mono ?_
            rintro e w4 ⟨rfl, hb4⟩
            have HP4 := Lib.hid (HP3.out.below hb4)
            obtain ⟨hc4, hf4⟩ := HP4.out.at_ HUK.out
            have hp5 := HP4.out.store HUK.out
            rw [HYR.out] at hp5
            obtain ⟨_, _, _, _, c3, _⟩ := hp5.cells
            obtain ⟨N5, D5, hM5, hN5, hnext⟩ := hp5.mapped HUK.out HBX.out HR3.out
            rw [HKK.out, HNN.out] at hnext
            have HNX := Lib.hid hnext
            have hn5 : N5 < maxLen := by
              have h1 := HN.out
              have h2 := List.countP_le_length (p := boxd) (l := fl.take k)
              rw [List.length_take] at h2
              unfold maxLen
              omega
            have hkey : keyOf Try.prog 3 (.int .i64 (nn + (z - 1))) = some (.int .i64 (nn + (z - 1))) := Go.Maps.keyOf_int_mk Try.underlying3 wfn
            clear hb4 hp5 hN5 hnext
            go_wp2_with (first
              | (at_mapUpdate; refine wpList_mapUpdate_own _ rfl _ _ _ 60 rfl 3 3 law Try.underlying60 _ bm N5 D5 rfl hM5 hn5 _ _ _ rfl rfl hkey _ [] (plainElem_int Try.underlying3 r1) ?_; intro w6 hM6 hg6
                 have HP6 := Lib.hid (HNX.out w6 hg6 hM6)
                 clear hM6 hg6)
              | fail)
            go_roundw
            case rel => exact ⟨k + 1, by omega, by go_num, HP6.out⟩
            case measure => simp [intOf]; omega
          · have hbf : boxd u = false := by simpa using hbx
            have HBOX := Lib.hid (fun w => hbf ▸ boxed_any u HU.out.1 HU.out.2 w)
            have HBF := Lib.hid hbf
            clear hbx hbf
            go_wp2_with (first
              | (go_at_call 35; refine (HBOX.out _).mono ?_; rintro e w4 ⟨rfl, h2⟩; obtain rfl := h2.symm)
              | fail)
            go_roundw
            case rel => exact ⟨k + 1, by omega, by go_num, HP3.out.skip HUK.out HBF.out⟩
            case measure => simp [intOf]; omega
        · obtain rfl : k = fl.length := by omega
          obtain ⟨_, _, hAv, c2, _, f2⟩ := HP1.out.cells
          injection hAv with e1 _ e2
          subst e1 e2
          obtain ⟨i0, hi, hy0, hy1, hy2⟩ := info_parts infoW
          have hp7 := HP1.out.below (w' := wr.drew) (btodrew (Below.refl _ _))
          have hcnt := hp7.st
          obtain ⟨N7, D7, hq7, hN7⟩ := hcnt
          have hmr : mrow (z - 1) fl fl.length = ownW (ix (flL L t)) t (hW H).length :: lay (ix (flL L t)) t (hW H).length := by
            have hl1 := HLEN.out
            have hl2 := HHB.out.hl
            rw [mrow_end, HFL1.out, List.map_cons, reb_own (p := 1) (q := (hW H).length) (d := z - 1) (snd_parts HSND.out).1 HRNG.out (by omega) (by omega), reb_lay (d := z - 1) t HSND.out HRNG.out 1 (hW H).length (by omega) (by omega)]
          have hrow7 := hp7.row
          rw [hmr] at hrow7
          have hrd : Reads wr.drew wr.drew.heap.size 1 (if cr = 1 then some ⟨r, 0, none⟩ else some ⟨r, 1, none⟩) (fl.length - 1) (u64s (lay (ix (flL L t)) t (hW H).length)) := (Reads.of_own hrow7).cut (k := 1) (by have := HLEN.out; omega) k1
          obtain ⟨v7, w7, hrun, hR7, hg7, hat7⟩ := run_append_any (P := Try.prog) wr.drew 0 39 39 31 i0 _ 1 8 Try.underlying39 hi hy0 hy1 hy2 rfl (by decide) (.slice Av (hW H).length cv) (hW H).length (u64s (hW H)) hq7.row _ _ _ (cr - 1) _ hrd (fun u hu => by
            unfold u64s at hu
            obtain ⟨x, _, rfl⟩ := List.mem_map.1 hu
            rfl) (by unfold maxLen; omega) (by omega) (Nat.zero_le _)
          rw [show u64s (hW H) ++ u64s (lay (ix (flL L t)) t (hW H).length) = u64s (hW (H ++ its (ix (flL L t)) t (hW H).length)) from by rw [hW_append, its_hW]; unfold u64s; rw [List.map_append]] at hR7
          obtain ⟨F8, N8, D8, hq8, hN8, hF8, hk8⟩ := hp7.push (w2 := w7) (v' := v7) (by rw [hW_append, its_hW, List.length_append]; have := HLEN.out; have := lay_len_eq (ix (flL L t)) (ix (flL L t)) t (hW H).length 1; omega) hg7 hR7 hat7 HFlt.out (fun k hk => HQ.out.fv k hk)
          obtain ⟨A7, c7, rfl, _, _⟩ := ownsRow_form hR7
          have hx0 : (w7.setCell ⟨gh, 2, none⟩ (.slice A7 ((hW H).length + (fl.length - 1)) c7)).cell? ⟨r, 0, none⟩ = some (.int .u64 (ownW (ix (flL L t)) t (hW H).length)) := by
            have hgr : gh ≠ r := fun e => hnr (.inl (e ▸ HQ.out.fg))
            rw [World.cell?_setCell_other _ _ _ _ (fun e => absurd (congrArg Addr.off e) (by simp))]
            have hr0 := (hrow7.lt r rfl).2
            rw [World.cell?_of_block (hg7.block r hr0 (fun e => hnr (.inl (HQ.out.fv r e.symm))))]
            obtain ⟨r', c', hv, _, _, _, _, k5⟩ := ownsRow_at hrow7 (k := 0) (by have := HLEN.out; omega)
            injection hv with hv
            injection hv with hv
            injection hv with hv
            subst hv
            exact k5 0 _ rfl
          have hB7 := hq7.blk.grown hg7 (fun e => own_blk_ne hq7.row hq7.blk (by decide) e.symm)
          have q2 : w7.cell? ⟨gh, 2, none⟩ = some (.slice Av (hW H).length cv) := by rw [hB7.cell]; rfl
          have f72 := hB7.frozen 2
          have HRUN := Lib.hid hrun
          have HQ8 := Lib.hid hq8; have HN8 := Lib.hid hN8; have HF8 := Lib.hid hF8; have HK8 := Lib.hid hk8
          have hn0 : (0 : Int) < nl := by omega
          clear hB7 hp7 hq7 hN7 hmr hrow7 hrd hrun hR7 hg7 hat7 hq8 hN8 hF8 hk8 hi hy0 hy1 hy2
          go_wp2_with fail
          go_region_law (refine step_append_run (.tmp 89) (.tmp 91) 39 _ _ _ HRUN.out rfl rfl (by simp [Act.eval, Act.put]) (by simp [Act.eval, Act.put]) ?_)
          all_goals go_wp2_with fail
          all_goals
            go_ret2
            have hok : putOk L lim H t := ⟨HE.out, by have := HFIT.out; have := HLEN.out; omega⟩
            refine ⟨ret2_wi ?_ ?_, ?_⟩
            · unfold putW; rw [if_pos hok]
            · unfold putE; rw [if_pos HE.out, if_pos hok.2]
            · refine ⟨F8, ⟨HHB2.out, FT2, .slice A7 ((hW H).length + (fl.length - 1)) c7, bm, N8, D8, ?_, ?_⟩, fun k hk => ?_, HK8.out⟩
              · have h1 := HQ8.out
                have h2 := ups_put (f := ix (flL L t)) HHB.out.wf.pos HSND.out HRNG.out (p := (hW H).length) rfl (by have := HLEN.out; have := HHB.out.hl; have := lay_len_eq (ix (flL L t)) (ix (flL L t)) t (hW H).length 1; omega)
                have hmr : fl.map (reb (z - 1)) = ownW (ix (flL L t)) t (hW H).length :: lay (ix (flL L t)) t (hW H).length := by
                  have hl1 := HLEN.out
                  have hl2 := HHB.out.hl
                  rw [HFL1.out, List.map_cons, reb_own (p := 1) (q := (hW H).length) (d := z - 1) (snd_parts HSND.out).1 HRNG.out (by omega) (by omega), reb_lay (d := z - 1) t HSND.out HRNG.out 1 (hW H).length (by omega) (by omega)]
                rw [List.take_length, hmr, h2] at h1
                have hpH : putH L lim H t = H ++ its (ix (flL L t)) t (hW H).length := by unfold putH; rw [if_pos hok]
                rw [hpH]
                exact h1
              · have h1 := HN8.out
                have h2 := HN.out
                have h3 := cnt_flat (f := ix (flL L t)) (snd_parts HSND.out).1 HRNG.out
                rw [List.take_length] at h1
                rw [← HFL1.out] at h3
                have hpH : putH L lim H t = H ++ its (ix (flL L t)) t (hW H).length := by unfold putH; rw [if_pos hok]
                rw [hpH, hW_append, its_hW, List.length_append]
                have := lay_len_eq (ix (flL L t)) (ix (flL L t)) t (hW H).length 1
                omega
              · rcases HF8.out k hk with h | h | h
                · exact .inl h
                · exact HFT2.out k h
                · exact .inr h
    · have HFIT := Lib.hid hfit
      have b1 : decide (lim < z + nl - 1) = true := decide_eq_true (by omega)
      clear hfit
      go_wp2_with fail
      go_quiet (fail)
      go_wp2_with fail
      go_ret2
      have hno : ¬ putOk L lim H t := fun h => by have := h.2; have := HLEN.out; have := HFIT.out; omega
      refine ⟨ret2_wi ?_ ?_, HMV.out _ (fdrewN (Below.refl _ _) _) hno⟩
      · unfold putW; rw [if_neg hno]
      · unfold putE; rw [if_pos HE.out, if_neg (fun h => hno ⟨HE.out, h⟩)]
  · have b1 : (flE L t != 0) = true := by simp [hE]
    have HE := Lib.hid hE
    clear hE
    go_wp2_with fail
    go_ret2
    have hno : ¬ putOk L lim H t := fun h => HE.out h.1
    refine ⟨ret2_wi ?_ ?_, HMV.out _ (Below.refl _ _) hno⟩
    · unfold putW; rw [if_neg hno]
    · unfold putE; rw [if_neg HE.out]
end Go.Proofs.Ytnedjmjcbmoknaa.Hp
