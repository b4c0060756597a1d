/- Collect, by its contract. (Printed by mk_hpcollect.py.) -/
import Derived.Test.YtnedjmjcbmoknaaHpMvA
import Derived.Test.YtnedjmjcbmoknaaHpGetA
import Derived.Deep.DeepCutAuto
import Derived.Deep.Light
namespace Go.Proofs.Ytnedjmjcbmoknaa.Hp
open Go.RowKit K At Wd Fl
set_option linter.unusedVariables false
set_option linter.unusedSimpArgs false

set_option maxRecDepth 100000 in
set_option maxHeartbeats 1600000 in
theorem collect_any (gh g : Nat) (L : List ByteArray) (lim : Int) (H : List It) (ws : List Int) (w : World) (F : Nat → Prop) (h : Hp w F gh g L lim H) (A0 : Option Addr) (c0 : Nat) (hr : Reads w w.heap.size 1 A0 ws.length (u64s ws)) (hu : ∀ u ∈ ws, U64 u ∧ may H L.length u = true) (hlen : ws.length ≤ 1073741824) :
    Calls Try.prog 15 #[.pointer (some ⟨gh, 0, none⟩), .slice A0 ws.length c0] w (CollectPost w F gh g L lim H ws) := by
  have hmf : ∀ (fn : Fn) (first cap : Array Value) (w : World), (Instr.makeFunc fn first cap).run Try.prog w = .ok (.func fn first cap) w := fun _ _ _ _ => rfl
  have hmm := @run_makeMap Try.prog
  obtain ⟨w1, hw1⟩ : ∃ x, w.alloc (.cells #[.pointer (some ⟨gh, 0, none⟩)] 22) = x := ⟨_, rfl⟩
  have hb1 : Below w.heap.size w w1 := by rw [← hw1]; exact ballocs (Below.refl _ _) _
  have hbp1 : Blk w1 w.heap.size 22 #[.pointer (some ⟨gh, 0, none⟩)] := by rw [← hw1]; exact Blk.new _ _ _
  have h1 := h.below hb1
  have HH1 := Lib.hid h1
  obtain ⟨_, FT, v, bm, N, D, hq, _⟩ := h1
  obtain ⟨Av, cv, rfl, hc1, hc2, q0, q1, q2, q3⟩ := hq.cells
  have HN := Lib.hid (hnone_yes gh bm w1 q3)
  have HMAY := Lib.hid (may_any gh g L lim H w1 F HH1.out A0 c0 ws ((hr.below hb1).more hb1.size) (fun u h => (hu u h).1) (by omega))
  have HALL := Lib.hid (show ws.all (may H L.length) = true from List.all_eq_true.2 (fun u h => (hu u h).2))
  have HU := Lib.hid hu; have HR := Lib.hid hr; have HH := Lib.hid h; have HB1 := Lib.hid hb1; have HBP1 := Lib.hid hbp1; have HW1 := Lib.hid hw1
  have p1 : w1.cell? ⟨w.heap.size, 0, none⟩ = some (.pointer (some ⟨gh, 0, none⟩)) := hbp1.cell 0
  clear hb1 hbp1 hu hr h hq hw1 q0 q1 q2 q3 hc1 hc2
  go_enter Try.func15, Try.ntmps15
  go_wp2_with fail
  rw [HW1.out]
  refine HN.out.mono ?_
  rintro e w2 ⟨rfl, h2⟩
  obtain rfl : w1 = w2 := h2.symm
  go_wp2_with fail
  refine HMAY.out.mono ?_
  rintro e w2 ⟨he, hb2⟩
  rw [HALL.out] at he
  subst he
  have hb02 := fbelow HB1.out hb2
  have hbp2 := HBP1.out.below hb2 HBP1.out.lt
  have p2 : w2.cell? ⟨w.heap.size, 0, none⟩ = some (.pointer (some ⟨gh, 0, none⟩)) := hbp2.cell 0
  have h2 := HH1.out.below hb2
  have HH2 := Lib.hid h2
  obtain ⟨_, FT, v, bm, N, D, hq, _⟩ := h2
  obtain ⟨Av, cv, rfl, hc1, hc2, q0, q1, q2, q3⟩ := hq.cells
  have hgl : gh < w2.heap.size := hq.fl _ hq.fg
  have hpl : w.heap.size < w2.heap.size := hbp2.lt
  have HBP2 := Lib.hid hbp2; have HB02 := Lib.hid hb02
  clear hb2 hb02 hbp2 p1 hq q2 q3 hc1 hc2
  go_upto_region 6 with fail
  obtain ⟨w5, hw5⟩ : ∃ x, (w2.alloc (.map #[] 0)).alloc (.cells #[.map (some w2.heap.size)] 79) = x := ⟨_, rfl⟩
  have hb5 : Below w2.heap.size w2 w5 := by rw [← hw5]; exact ballocs (ballocs (Below.refl _ _) _) _
  have hmt5 : w5.ownsMap Try.prog 3 (plainElem Try.prog 31) w2.heap.size 0 (.map [] : DataW Unit) := by rw [← hw5]; exact (World.ownsMap_made w2 _ _ _).alloc _
  have hbt5 : Blk w5 (w2.heap.size + 1) 79 #[.map (some w2.heap.size)] := by
    rw [← hw5]
    have := Blk.new (w2.alloc (.map #[] 0)) 79 #[.map (some w2.heap.size)]
    rw [World.size_alloc] at this
    exact this
  have hz5 : w5.heap.size = w2.heap.size + 1 + 1 := by rw [← hw5]; simp
  rw [hw5]
  obtain ⟨b2, hb2'⟩ : ∃ b2, w2.heap.size = b2 := ⟨_, rfl⟩
  have h5 := HH2.out.below hb5
  have HH5 := Lib.hid h5
  have hbp5 := HBP2.out.below hb5 HBP2.out.lt
  have HBP5 := Lib.hid hbp5; have HB05 := Lib.hid (fbelow HB02.out hb5)
  obtain ⟨_, FT, v, bm, N, D, hq, _⟩ := h5
  obtain ⟨Av, cv, rfl, hc1, hc2, r0, r1, _, _⟩ := hq.cells
  have rp : w5.cell? ⟨w.heap.size, 0, none⟩ = some (.pointer (some ⟨gh, 0, none⟩)) := hbp5.cell 0
  rw [hb2'] at hmt5 hbt5 hz5 hgl hpl ⊢
  have HMT5 := Lib.hid hmt5; have HBT5 := Lib.hid hbt5
  have hgl5 : gh < w5.heap.size := by omega
  have hpl5 : w.heap.size < w5.heap.size := by omega
  have HZ5 := Lib.hid hz5; have HPB := Lib.hid hpl
  clear hw5 hb5 hmt5 hbt5 hbp5 hq p2 q0 q1 hgl hpl hb2' hc1 hc2 hz5
  go_cut [7] (fun s7 wx => ∃ gn bn, s7 = .pointer (some ⟨gn, 0, none⟩) ∧ Below w5.heap.size w5 wx ∧ wx.ownsMap Try.prog 3 (plainElem Try.prog 3) bn 0 (.map [] : DataW Unit) ∧ Blk wx gn 62 #[.pointer (some ⟨g, 0, none⟩), .int .i64 lim, .slice none 0 0, .map (some bn)] ∧ w5.heap.size ≤ gn ∧ w5.heap.size ≤ bn ∧ bn < wx.heap.size)
  case first =>
    go_region
    · go_wp2_with fail
      go_meet
      have hmn6 : (((w5.alloc (.map #[] 0)).alloc (.cells #[.pointer (some ⟨g, 0, none⟩), .int .i64 lim, .slice none 0 0, .map (some w5.heap.size)] 62)).drew).ownsMap Try.prog 3 (plainElem Try.prog 3) w5.heap.size 0 (.map [] : DataW Unit) := ((World.ownsMap_made w5 _ _ _).alloc _)
      have hbn6 := Blk.new (w5.alloc (.map #[] 0)) 62 #[.pointer (some ⟨g, 0, none⟩), .int .i64 lim, .slice none 0 0, .map (some w5.heap.size)]
      rw [World.size_alloc] at hbn6
      exact ⟨_, _, rfl, btodrew (ballocs (ballocs (Below.refl _ _) _) _), hmn6, hbn6.drew, by omega, Nat.le_refl _, by show _ < ((w5.alloc (.map #[] 0)).alloc _).heap.size; simp only [World.size_alloc]; omega⟩
    · go_wp2_with fail
      go_meet
      have hmn6 := World.ownsMap_made (w5.alloc (.cells #[.pointer (some ⟨g, 0, none⟩), .int .i64 lim, .slice none 0 0, .map (some (w5.heap.size + 1))] 62)) Try.prog 3 (plainElem (H := Unit) Try.prog 3)
      rw [World.size_alloc] at hmn6
      exact ⟨_, _, rfl, btodrew (ballocs (ballocs (Below.refl _ _) _) _), hmn6, ((Blk.new w5 _ _).alloc _).drew, Nat.le_refl _, by omega, by show _ < ((w5.alloc _).alloc (.map #[] 0)).heap.size; simp only [World.size_alloc]; omega⟩
  case rest =>
  obtain ⟨gn, bn, rfl, hb6, hmn6, hbn6, hx1, hx2, hx3⟩ := hcut
  obtain ⟨w6, hw6⟩ : ∃ z, wc = z := ⟨_, rfl⟩
  rw [hw6] at hb6 hmn6 hbn6 hx3 ⊢
  have HX := Lib.hid (And.intro hx1 (And.intro hx2 hx3))
  have HB6 := Lib.hid hb6; have HMN6 := Lib.hid hmn6; have HBN6 := Lib.hid hbn6
  clear hb6 hmn6 hbn6 hx1 hx2 hx3 r0 r1 rp hw6
  go_wp2_with fail
  have hb7 : Below w6.heap.size w6 (w6.alloc (.cells #[.slice none 0 0] 39)) := ballocs (Below.refl _ _) _
  have hST := ms_start (w := w) (wr := w6.alloc (.cells #[.slice none 0 0] 39)) (gp := w.heap.size) (gt := b2 + 1) (bt := b2) (gn := gn) (bn := bn) (go := w6.heap.size) ((HH5.out.below HB6.out).below hb7) HH.out.lt (fbelow (fbelow HB05.out HB6.out) hb7)
    ((HBP5.out.below HB6.out HBP5.out.lt).alloc _) ((HBT5.out.below HB6.out HBT5.out.lt).alloc _) ((ownsMap_keep HMT5.out (Keep.new (F := fun _ => False) HB6.out) (fun h => h)).alloc _) (HBN6.out.alloc _) (HMN6.out.alloc _) (Blk.new _ _ _)
    (by go_light; have := HPB.out; omega) ⟨by go_light; have := HPB.out; omega, by go_light; have := HB6.out.size; have := HZ5.out; simp; omega⟩ (by go_light; have := HPB.out; have := HX.out; have := HZ5.out; omega) ⟨by go_light; have := HPB.out; have := HX.out; have := HZ5.out; omega, by go_light; have := HX.out; simp; omega⟩ (by go_light; have := HPB.out; have := HX.out; have := HZ5.out; omega) ⟨by go_light; have := HPB.out; omega, by go_light; have := HPB.out; omega, by go_light; have := HPB.out; have := HX.out; have := HZ5.out; omega, by go_light; have := HPB.out; have := HX.out; have := HZ5.out; omega, by go_light; have := HPB.out; have := HX.out; have := HZ5.out; omega⟩ (by go_light; have := HPB.out; have := HX.out; have := HZ5.out; omega)
  obtain ⟨G0, hM0⟩ := hST
  have HM0 := Lib.hid hM0
  obtain ⟨go, hgo⟩ : ∃ z, w6.heap.size = z := ⟨_, rfl⟩
  obtain ⟨gp, hgp⟩ : ∃ z, w.heap.size = z := ⟨_, rfl⟩
  obtain ⟨gt, hgt⟩ : ∃ z, b2 + 1 = z := ⟨_, rfl⟩
  have HGP := Lib.hid hgp
  rw [hgo, hgp, hgt] at HM0
  rw [hgo, hgp, hgt]
  have hI0 : ∃ G, Ms w none0 (w6.alloc (.cells #[.slice none 0 0] 39)) F G gp gh g L lim H gt gn gp go [] 0 ∧ Fo (w6.alloc (.cells #[.slice none 0 0] 39)) G (gp + 1) (.slice none 0 0) 0 [] := ⟨G0, HM0.out, World.ownsRow_nil _ _ _ _, fun r h => by simp [Value.ownBlock] at h⟩
  have HI0 := Lib.hid hI0
  obtain ⟨n, hn⟩ : ∃ n, ws.length = n := ⟨_, rfl⟩
  have HN := Lib.hid hn
  rw [hn] at hlen ⊢
  clear hb7 hM0 hI0 hgo hgp hgt hn HM0
  go_loopw [44, 10] (fun x o wr => ∃ i : Nat, i ≤ n ∧ x = .int .i64 (i : Int) ∧ ∃ G A c, o = .slice A i c ∧ Ms w none0 wr F G gp gh g L lim H gt gn gp go (addAll [] (ws.take i)) 0 ∧ Fo wr G (gp + 1) (.slice A i c) i ((ws.take i).map (reloc H (addAll [] (ws.take i))))) (fun x _ _ => n - (intOf x).toNat)
  case atStart =>
    obtain ⟨G, h1, h2⟩ := HI0.out
    exact ⟨0, Nat.zero_le _, rfl, G, none, 0, rfl, h1, h2⟩
  case round =>
    obtain ⟨i, hi, rfl, G, A, c, rfl, hms, hfo⟩ := hrel
    clear HI0
    by_cases hlt : i < n
    · obtain ⟨ad, u, rfl, hab, hcell, HMV⟩ := Su.go_ HN.out HGP.out HR.out HU.out hms hfo hlt (by omega)
      have hi0 : (0 : Int) ≤ (i : Int) := by omega
      have hin : (i : Int) < (n : Int) := by omega
      clear hms hfo
      go_wp2_with fail
      refine HMV.out.mono ?_
      rintro e w7 ⟨y, A8, c8, w8, rfl, hrun, hres⟩
      have HRUN := Lib.hid hrun; have HRES := Lib.hid hres
      clear hrun hres
      go_wp2_with (first
        | (at_builtin; refine wpList_append_run (o := ⟨some 53, _, _, _, _, _⟩) (.tmp 48) (.tmp 52) 39 _ _ _ HRUN.out rfl rfl (by simp [Act.eval, Act.put]) (by simp [Act.eval, Act.put]) ?_)
        | fail)
      go_roundw
      case rel =>
        obtain ⟨G', h1, h2⟩ := HRES.out
        exact ⟨i + 1, by omega, by go_num, G', A8, c8, rfl, h1, h2⟩
      case measure => simp [intOf]; omega
    · obtain rfl : i = n := by omega
      obtain ⟨ps0, hps0⟩ : ∃ z, addAll [] ws = z := ⟨_, rfl⟩
      obtain ⟨outs, houts⟩ : ∃ z, ws.map (reloc H ps0) = z := ⟨_, rfl⟩
      have HI1 := Lib.hid (Su.end_ HN.out HU.out hps0 houts hms hfo)
      have HOUT := Lib.hid houts; have HPS0 := Lib.hid hps0
      clear hms hfo hps0 houts hlt hi
      go_wp2_with fail
      go_loopw [13] (fun x wr => ∃ k : Nat, x = .int .i64 (k : Int) ∧ Sc w wr F gh g L lim H gt gn gp go ps0 outs (.slice A i c) i k) (fun x _ => (hW H).length + 1 - (intOf x).toNat)
      case atStart => exact ⟨0, rfl, HI1.out⟩
      case round =>
        obtain ⟨k, rfl, hsc⟩ := hrel
        clear HI1
        have HSC := Lib.hid hsc
        obtain ⟨nps, Ao, co, hk1, hk2, hk3, o1, o3, HGO⟩ := hsc.go_
        have hk0 : (0 : Int) ≤ (k : Int) := by omega
        have HK2 := Lib.hid hk2
        clear hsc
        by_cases hlt : k < nps
        · obtain ⟨x, s, o, y, ad, n1, G, ps, rfl, hab, hcell, hn1, hn64, hon, hsn, HUN, HPT, hs9, hs7, HSS, HEND⟩ := HGO hlt
          have hkn : (k : Int) < (nps : Int) := by omega
          have HN1 := Lib.hid hn1
          clear HGO hn1
          go_wp2_with fail
          refine (HUN.out _).mono ?_
          rintro e w7 ⟨rfl, hb7⟩
          have o1' := (hb7.cell (p := ⟨go, 0, none⟩) o3).trans o1
          have hcell' := (hb7.cell (p := ad.add k) (by rw [block_of_add]; exact hab)).trans hcell
          have hgo7 : go < w7.heap.size := Nat.lt_of_lt_of_le o3 hb7.size
          have HB7 := Lib.hid hb7
          clear hb7 hcell o1
          go_wp2_with fail
          refine (HPT.out w7 HB7.out).mono ?_
          rintro e w8 ⟨A', c', rfl, hb8, h08, hrd⟩
          have HCL := Lib.hid (clone_u64 A' n1 c' w8.heap.size (u64s x.ws) w8 hrd (Nat.le_refl _) (u64s_one _) (by omega) h08)
          have HB8 := Lib.hid (fbelow HB7.out hb8)
          clear hb8 h08 hrd o1' hcell' hgo7 o3
          obtain ⟨kk, hkk⟩ : ∃ z, x.k = z := ⟨_, rfl⟩
          rw [hkk] at hs9 hs7 ⊢
          by_cases h9 : kk = 9
          · have b9 : (kk != 9) = false := by simp [h9]
            obtain rfl : s = o := (hs9 h9).symm
            clear h9 hkk hs7 hs9
            go_wp2_with fail
            refine HCL.out.mono ?_
            rintro e w9 ⟨vc, rfl, hoc, hb9⟩
            obtain ⟨Ac, cc, rfl, _, _⟩ := ownsRow_form hoc
            have HI2 := Lib.hid (Sw.start HSS.out HB8.out hoc hb9)
            have HS3 := Lib.hid (And.intro HSS.out.1 HSS.out.2.2.2.2)
            clear hoc hb9
            go_wp2_with fail
            go_loopw [85] (fun z wr => ∃ j : Nat, j ≤ n1 ∧ z = .int .i64 (j : Int) ∧ Sw w wr F gh g L lim H gt gn gp go ps x s outs (.slice A i c) (.slice Ac n1 cc) i n1 j) (fun z _ => n1 - (intOf z).toNat)
            case atStart => exact ⟨0, Nat.zero_le _, rfl, HI2.out⟩
            case round =>
              obtain ⟨j, hj, rfl, hsw⟩ := hrel
              clear HI2
              by_cases hlt3 : j < n1
              · obtain ⟨ad3, u, rfl, hab3, hcell3, HMV3⟩ := hsw.go_ HN1.out HS3.out.1 HS3.out.2 hlt3
                have hj0 : (0 : Int) ≤ (j : Int) := by omega
                have hjn : (j : Int) < (n1 : Int) := by omega
                clear hsw
                go_wp2_with fail
                refine HMV3.out.mono ?_
                rintro e w10 ⟨y4, r4, c4, N4, zz, rfl, z1, z2, z3, z4, z5, z6, hres⟩
                obtain ⟨sj, hsj⟩ : ∃ sj, s + j = sj := ⟨_, rfl⟩
                rw [hsj] at z2 z5 z6 hres
                have hsji : (s : Int) + (j : Int) = (sj : Int) := by omega
                have hsjl : (sj : Int) < (N4 : Int) := by omega
                have hsj0 : (0 : Int) ≤ (sj : Int) := by omega
                have hsjm : (sj : Int) < 9223372036854775808 := by omega
                have HRES := Lib.hid hres
                clear hres hsj z2
                go_wp2_with fail
                go_roundw
                case rel => exact ⟨j + 1, by omega, by go_num, HRES.out⟩
                case measure => simp [intOf]; omega
              · obtain rfl : j = n1 := by omega
                have HE := Lib.hid (HEND.out _ _ hsw)
                clear hsw
                go_wp2_with fail
                all_goals exact ⟨⟨k + 1, by go_num, HE.out⟩, by have := HK2.out; simp [intOf]; omega⟩
          · have b9 : (kk != 9) = true := by simp [h9]
            have hoi : (o : Int) + 1 = (s : Int) := by have := hs7 h9; omega
            have ho64 : (o : Int) + 1 < 9223372036854775808 := by omega
            clear h9 hkk hs7 hs9
            go_wp2_with fail
            clear hoi ho64
            refine HCL.out.mono ?_
            rintro e w9 ⟨vc, rfl, hoc, hb9⟩
            obtain ⟨Ac, cc, rfl, _, _⟩ := ownsRow_form hoc
            have HI2 := Lib.hid (Sw.start HSS.out HB8.out hoc hb9)
            have HS3 := Lib.hid (And.intro HSS.out.1 HSS.out.2.2.2.2)
            clear hoc hb9
            go_wp2_with fail
            go_loopw [85] (fun z wr => ∃ j : Nat, j ≤ n1 ∧ z = .int .i64 (j : Int) ∧ Sw w wr F gh g L lim H gt gn gp go ps x s outs (.slice A i c) (.slice Ac n1 cc) i n1 j) (fun z _ => n1 - (intOf z).toNat)
            case atStart => exact ⟨0, Nat.zero_le _, rfl, HI2.out⟩
            case round =>
              obtain ⟨j, hj, rfl, hsw⟩ := hrel
              clear HI2
              by_cases hlt3 : j < n1
              · obtain ⟨ad3, u, rfl, hab3, hcell3, HMV3⟩ := hsw.go_ HN1.out HS3.out.1 HS3.out.2 hlt3
                have hj0 : (0 : Int) ≤ (j : Int) := by omega
                have hjn : (j : Int) < (n1 : Int) := by omega
                clear hsw
                go_wp2_with fail
                refine HMV3.out.mono ?_
                rintro e w10 ⟨y4, r4, c4, N4, zz, rfl, z1, z2, z3, z4, z5, z6, hres⟩
                obtain ⟨sj, hsj⟩ : ∃ sj, s + j = sj := ⟨_, rfl⟩
                rw [hsj] at z2 z5 z6 hres
                have hsji : (s : Int) + (j : Int) = (sj : Int) := by omega
                have hsjl : (sj : Int) < (N4 : Int) := by omega
                have hsj0 : (0 : Int) ≤ (sj : Int) := by omega
                have hsjm : (sj : Int) < 9223372036854775808 := by omega
                have HRES := Lib.hid hres
                clear hres hsj z2
                go_wp2_with fail
                go_roundw
                case rel => exact ⟨j + 1, by omega, by go_num, HRES.out⟩
                case measure => simp [intOf]; omega
              · obtain rfl : j = n1 := by omega
                have HE := Lib.hid (HEND.out _ _ hsw)
                clear hsw
                go_wp2_with fail
                all_goals exact ⟨⟨k + 1, by go_num, HE.out⟩, by have := HK2.out; simp [intOf]; omega⟩
        · have hkn : k = nps := by omega
          obtain ⟨Av, nv, cv, bn', x0, x1, x2, x3, y1, y2, y3, y4⟩ := HSC.out.end_ HGP.out HN.out HH.out.lt HPS0.out HOUT.out rfl o1 hkn
          have HFIN := Lib.hid y4
          obtain ⟨c0', c1', c2', c3', _, _, _, _⟩ := y1.four
          obtain ⟨d0, d1, d2, d3, f0, f1, f2, f3⟩ := y2.four
          have hghl := y2.lt
          have hgnl := y1.lt
          have hni : (nps : Int) ≤ (k : Int) := by omega
          clear y1 y2 y4 HGO hkn
          unfold put4 at HFIN
          go_wp2_with fail
          go_ret2
          exact HFIN.out
end Go.Proofs.Ytnedjmjcbmoknaa.Hp
