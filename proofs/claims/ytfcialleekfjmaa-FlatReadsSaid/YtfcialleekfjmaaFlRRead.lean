/- The document's term, Read and Part, by contracts. -/
import Derived.Test.YtfcialleekfjmaaFlRTerm
import Derived.Test.YtfcialleekfjmaaFlRFlat
namespace Go.Proofs.Ytfcialleekfjmaa.Fl
open Go.RowKit K At Wd
set_option linter.unusedVariables false
set_option linter.unusedSimpArgs false

theorem rterm_any (gR h : Nat) (A : Option Addr) (l : List Int) (c : Nat) (G : Nat → Prop) (Ts : List ByteArray) (hU : ∀ x ∈ l, U64 x) (hlc : l.length ≤ c) (hl6 : l.length ≤ 65536) (hA64 : ∀ s ∈ Ts, s.size ≤ 64) :
    ∀ (fuel : Nat) (x : Int), U64 x → ∀ q : Nat, q ≤ l.length → l.length < q + fuel → ∀ w, REnvR w gR h G Ts A l → RRdr w gR (.pointer (some ⟨h, 0, none⟩)) A l.length c (q : Int) false →
      Calls Try.prog 52 #[.pointer (some ⟨gR, 0, none⟩), .int .u64 x] w (RRdPost w gR (.pointer (some ⟨h, 0, none⟩)) A l c (rdT Ts l fuel x q)) := by
  intro fuel
  induction fuel with
  | zero => intro x hx q hq hf; omega
  | succ fuel IH =>
    intro x hx q hq hf w henv hr
    rw [rdT_succ]
    by_cases hE : unE x = 0
    · rw [if_neg (fun h => h hE)]
      obtain ⟨_, _, n1, n2, n3, k1, k2⟩ := un_facts hE
      by_cases hlf : leafK (unK x)
      · rw [if_pos hlf]
        exact rterm_leaf gR h A l c q x hx hE hlf w hr
      rw [if_neg hlf]
      by_cases h2 : unK x = 2
      · rw [if_pos h2]
        cases hT : Ts[(unN x).toNat]? with
        | some s => exact rterm_atom gR h A l c q x hx hE h2 G Ts s hT w henv.1 hr
        | none => exact rterm_noatom gR h A l c q x hx hE h2 G Ts hT w henv.1 hr
      rw [if_neg h2]
      by_cases hbx : boxK (unK x)
      · rw [if_pos hbx]
        by_cases hnq : unN x = (q : Int)
        · rw [if_pos hnq]
          rcases hbx with h7 | h5 | h9
          · rw [h7]
            cases hh : hdR l 7 q with
            | none =>
              refine rbox7_nohead gR h A l c q x hx hE h7 hnq hq hl6 hU hlc (fun y hy hd => ?_) G Ts w henv hr
              unfold hdR at hh
              rw [if_neg (by decide), hy] at hh
              simp only at hh
              rw [if_pos ⟨hd.1, by rw [hd.2]; rfl⟩] at hh
              cases hh
            | some hd =>
              simp only
              obtain ⟨y, hy, hyE, hyK, he⟩ := hdR_75 (.inl rfl) hh
              rw [if_pos rfl] at hyK he
              subst he
              obtain ⟨_, _, m1, _, _, _, _⟩ := un_facts hyE
              rw [hyK] at m1
              have e1 : low 10 = 0 := rfl
              rw [e1] at m1
              by_cases hle : q + 1 + (unN y).toNat ≤ l.length
              · rw [if_pos hle]
                exact rbox7_yes gR h A l c q x hx hE h7 hnq hq hl6 hU hlc y hy hyE hyK (unN y).toNat (by omega) G Ts hA64 fuel hf IH _ rfl hle w henv hr
              · rw [if_neg hle]
                exact rbox7_no gR h A l c q x hx hE h7 hnq hq hl6 hU hlc y hy hyE hyK (unN y).toNat (by omega) G Ts (by omega) w henv hr
          · rw [h5]
            cases hh : hdR l 5 q with
            | none =>
              refine rbox5_nohead gR h A l c q x hx hE h5 hnq hq hl6 hU hlc (fun y hy hd => ?_) G Ts w henv hr
              unfold hdR at hh
              rw [if_neg (by decide), hy] at hh
              simp only at hh
              rw [if_pos ⟨hd.1, by rw [hd.2]; rfl⟩] at hh
              cases hh
            | some hd =>
              simp only
              obtain ⟨y, hy, hyE, hyK, he⟩ := hdR_75 (.inr rfl) hh
              rw [if_neg (by decide)] at hyK he
              subst he
              obtain ⟨_, _, m1, _, _, _, _⟩ := un_facts hyE
              rw [hyK] at m1
              have e1 : low 11 = 0 := rfl
              rw [e1] at m1
              have ea : unN y / 128 = ((unN y / 128).toNat : Int) := by omega
              have eb : unN y % 128 = ((unN y % 128).toNat : Int) := by omega
              have en : unN y = ((unN y).toNat : Int) := by omega
              by_cases hle : q + 1 + (unN y % 128).toNat ≤ l.length
              · rw [if_pos hle]
                refine rbox5_yes gR h A l c q x hx hE h5 hnq hq hl6 hU hlc y hy hyE hyK (unN y).toNat en (unN y / 128).toNat (unN y % 128).toNat (by rw [← en]; exact ea) (by rw [← en]; exact eb) G Ts hA64 fuel hf IH _ ?_ hle w henv hr
                rw [← ea]
              · rw [if_neg hle]
                exact rbox5_no gR h A l c q x hx hE h5 hnq hq hl6 hU hlc y hy hyE hyK (unN y).toNat en (unN y / 128).toNat (unN y % 128).toNat (by rw [← en]; exact ea) (by rw [← en]; exact eb) G Ts (by omega) w henv hr
          · rw [h9, hdR_9]
            simp only
            by_cases hle : q + 2 ≤ l.length
            · rw [if_pos hle]
              exact rbox9_yes gR h A l c q x hx hE h9 hnq hq hl6 hU hlc G Ts hA64 fuel hf IH _ rfl hle w henv hr
            · rw [if_neg hle]
              exact rbox9_no gR h A l c q x hx hE h9 hnq hq hl6 hU hlc G Ts (by omega) w henv hr
        · rw [if_neg hnq]
          exact rterm_bad3 gR h A l c q x hx hE hbx hnq w hr
      · rw [if_neg hbx]
        exact rterm_bad2 gR h A l c q x hx hE (by unfold leafK at hlf; unfold boxK at hbx; omega) w hr
    · rw [if_pos hE]
      exact rterm_bad1 gR h A l c q x hx hE w hr
set_option maxRecDepth 100000 in
set_option maxHeartbeats 8000000 in
theorem rread_any (h : Nat) (A : Option Addr) (l : List Int) (c : Nat) (G : Nat → Prop) (Ts : List ByteArray) (hU : ∀ x ∈ l, U64 x) (hlc : l.length ≤ c) (hA64 : ∀ s ∈ Ts, s.size ≤ 64) (w : World) (hT : RTab w G h Ts) (hl : Reads w w.heap.size 1 A l.length (u64s l)) :
    Calls Try.prog 26 #[.pointer (some ⟨h, 0, none⟩), .slice A l.length c] w (ReadPost w Ts l) := by
  have hb0 := ballocs (Below.refl w.heap.size w) (.cells tz 24)
  have hz0 := Blk.new w 24 tz
  obtain ⟨w0, hw0⟩ : ∃ x, w.alloc (.cells #[.int .i64 0, .int .i64 0, .string ⟨#[]⟩, .slice none 0 0] 24) = x := ⟨_, rfl⟩
  rw [hw0] at hb0 hz0
  have hs0 : w0.heap.size = w.heap.size + 1 := by rw [← hw0]; simp
  have HT0 := Lib.hid (hT.keep (G := fun _ => False) (Keep.new hb0) (fun _ _ h => h) : RTab w0 G h Ts)
  have hl0 : Reads w0 w0.heap.size 1 A l.length (u64s l) := (hl.below hb0).more hb0.size
  have HGL := Lib.hid (RTab.lt_ hT)
  have HL0 := Lib.hid hl0; have HZ0 := Lib.hid hz0; have HB0 := Lib.hid hb0; have HW0 := Lib.hid hw0; have HS0 := Lib.hid hs0
  obtain ⟨z0, z1, z2, z3, y0, y1, y2, y3⟩ := hz0.four
  clear hT hl hl0 hz0 hb0 hw0 hs0
  by_cases h6 : l.length ≤ 65536
  · have b6 : decide ((65536 : Int) < (l.length : Int)) = false := decide_eq_false (by omega)
    by_cases hnil : l.length = 0
    · have hE : rdE Ts l = 4 := rdE_no h6 (by rw [List.eq_nil_of_length_eq_zero hnil]; rfl)
      have HE := Lib.hid hE
      obtain ⟨N, hN⟩ : ∃ N, l.length = N := ⟨_, rfl⟩
      rw [hN] at b6 hnil ⊢
      subst hnil
      clear hE hN
      go_enter Try.func26, Try.ntmps26
      go_wp2_with fail
      rw [HW0.out]
      exact bodyPost_ret (v := .tuple #[.agg #[.int .i64 0, .int .i64 0, .string ⟨#[]⟩, .slice none 0 0], .int .i64 4]) (by simp [results, Try.results26, go_sem, z0, z1, z2, z3]) rfl ⟨HB0.out, .inr ⟨.inr HE.out, by rw [HE.out]⟩⟩
    · obtain ⟨x, hx⟩ : ∃ x, l[0]? = some x := ⟨_, List.getElem?_eq_getElem (by omega)⟩
      have hUx : U64 x := hU x (List.mem_of_getElem? hx)
      obtain ⟨gR, hgR⟩ : ∃ gR, w0.heap.size = gR := ⟨_, rfl⟩
      obtain ⟨w1, hw1⟩ : ∃ x, w0.alloc (.cells #[.pointer (some ⟨h, 0, none⟩), .slice A l.length c, .int .i64 1, .bool false] 94) = x := ⟨_, rfl⟩
      have hb1 : Below w0.heap.size w0 w1 := by rw [← hw1]; exact ballocs (Below.refl _ _) _
      have hr1 : RRdr w1 gR (.pointer (some ⟨h, 0, none⟩)) A l.length c ((1 : Nat) : Int) false := by rw [← hw1, ← hgR]; exact Blk.new _ _ _
      have hgl1 : gR < w1.heap.size := Blk.lt hr1
      have hgw : w.heap.size < gR := by have := HS0.out; omega
      have hen : REnvR w1 gR h G Ts A l := ⟨HT0.out.keep (G := fun _ => False) (Keep.new hb1) (fun _ _ h => h), fun hg => by have := HGL.out _ hg; omega, by rw [← hgR]; exact HL0.out.below hb1, hgl1⟩
      have HZ1 := Lib.hid (HZ0.out.below hb1 HZ0.out.lt)
      have HB1 := Lib.hid (fbelow HB0.out hb1)
      have HTM := Lib.hid (rterm_any gR h A l c G Ts hU hlc h6 hA64 (l.length + 1) x hUx 1 (by omega) (by omega) w1 hen hr1)
      have HBK := Lib.hid (show ∀ wx, Keep (fun b => b = gR) w1 wx → Below w.heap.size w wx from fun wx hk => Keep.below HB1.out hk (by have := HB1.out.size; omega) (fun i hi (e : i = gR) => by omega))
      obtain ⟨ad, u, rfl, hab, hu, hcell⟩ := HL0.out.at_ (k := 0) (by omega)
      obtain rfl : u = .int .u64 x := u64_at hx hu
      have hcell0 : w0.cell? ad = some (.int .u64 x) := by simpa [Addr.add] using hcell
      have hcA : ∀ o, (w0.alloc o).cell? ad = some (.int .u64 x) := fun o => (World.cell?_alloc_lt w0 o ad hab).trans hcell0
      have hcB : ∀ o, ((w.alloc (.cells #[.int .i64 0, .int .i64 0, .string ⟨#[]⟩, .slice none 0 0] 24)).alloc o).cell? ad = some (.int .u64 x) := by rw [HW0.out]; exact hcA
      have HX := Lib.hid hx; have HW1 := Lib.hid hw1; have HGR := Lib.hid (show w.heap.size + 1 = gR from by have := HS0.out; omega)
      have HCK := Lib.hid (fun t (h : rdF Ts l = some t) => rdF_chk hA64 hU h6 h)
      obtain ⟨n0, hn0⟩ : ∃ n0, l.length = n0 := ⟨_, rfl⟩
      have HN0 := Lib.hid hn0
      have bnil : ((l.length : Int) == 0) = false := by rw [beq_eq_false_iff_ne]; omega
      rw [hn0] at bnil b6 HW1 ⊢
      have hpos : (0 : Int) < (n0 : Int) := by omega
      clear hx hUx hen hr1 hw1 hgR hb1 hu hab hcell hcell0 hnil hn0 hU hlc hA64 z0 z1 z2 z3 y0 y1 y2 y3
      go_enter Try.func26, Try.ntmps26
      go_wp2_with fail
      rename_i K1 hK1 K2 hK2
      have HKK := Lib.hid hK1
      clear hK1
      rw [HW0.out, HW1.out, HGR.out]
      refine HTM.out.mono ?_
      rintro e w3 ⟨k6, m6, s6, A6, l6, c6, rfl, hk3, hres⟩
      have hz3 := HZ1.out.keep hk3 (fun (e : w.heap.size = gR) => by omega)
      have HZ3 := Lib.hid hz3
      have HB3 := Lib.hid (HBK.out _ hk3)
      have HRES := Lib.hid hres
      have HSZ := Lib.hid (show w.heap.size < w1.heap.size from HZ1.out.lt)
      have HSZ3 := Lib.hid (show gR < w3.heap.size from by have := hk3.size; omega)
      clear hk3 hz3 hres hcA hcB
      go_wp2_with fail
      refine HKK.out _ _ ?_
      have ht4 := Blk.new w3 24 #[.int .i64 k6, .int .i64 m6, .string s6, .slice A6 l6 c6]
      have hz4 := HZ3.out.alloc (.cells #[.int .i64 k6, .int .i64 m6, .string s6, .slice A6 l6 c6] 24)
      have HR4 := Lib.hid (fun q b (h' : RRdr w3 gR (.pointer (some ⟨h, 0, none⟩)) (some ad) l.length c q b) => (show RRdr (w3.alloc (.cells #[.int .i64 k6, .int .i64 m6, .string s6, .slice A6 l6 c6] 24)) gR (.pointer (some ⟨h, 0, none⟩)) (some ad) l.length c q b from Blk.alloc h' _))
      have hb34 := ballocs (Below.refl w3.heap.size w3) (.cells #[.int .i64 k6, .int .i64 m6, .string s6, .slice A6 l6 c6] 24)
      obtain ⟨w4, hw4⟩ : ∃ x, w3.alloc (.cells #[.int .i64 k6, .int .i64 m6, .string s6, .slice A6 l6 c6] 24) = x := ⟨_, rfl⟩
      rw [hw4] at ht4 hz4 HR4 hb34 ⊢
      clear hw4
      have HB4 := Lib.hid (fbelow HB3.out hb34); have HB34 := Lib.hid hb34
      obtain ⟨x0, x1, x2, x3, v0, v1, v2, v3⟩ := hz4.four
      obtain ⟨t0, t1, t2, t3, _, _, _, _⟩ := ht4.four
      have HZ4 := Lib.hid hz4; have HTX := Lib.hid ht4
      have hl34 := hb34.size
      obtain ⟨g8, hg8⟩ : ∃ g8, w3.heap.size = g8 := ⟨_, rfl⟩
      rw [hg8] at t0 t1 t2 t3 ht4 ⊢
      have hg84 : g8 < w4.heap.size := ht4.lt
      have hlw4 : w.heap.size < w4.heap.size := hz4.lt
      have HG8 := Lib.hid (show w.heap.size < g8 from by have := HSZ3.out; omega)
      clear hz4 ht4 hg8 hb34 hl34
      rcases HRES.out with ⟨t, q, ho, ht, hr3⟩ | ⟨ho, q', hr3⟩
      · have hr4 := HR4.out _ _ hr3
        rw [HN0.out] at hr4
        obtain ⟨d0', d1', d2', d3', _, _⟩ := hr4.four
        by_cases hq : q = n0
        · have hF : rdF Ts l = some t := by unfold rdF; rw [HX.out]; simp only [ho]; rw [if_pos (by rw [HN0.out]; exact hq)]
          have hE : rdE Ts l = 0 := by unfold rdE; rw [if_neg (by omega), hF]; rfl
          obtain ⟨hchk, _, _⟩ := HCK.out t hF
          have ht4 := ht.under HB34.out (fun b hb => hb.2)
          have HT4 := Lib.hid ht4
          have HCHK := Lib.hid (rcheck_any t _ w4 (show TA w4 t _ from ht4.mono (fun b hb => Nat.lt_of_lt_of_le hb.2 HB34.out.size)) (Nat.le_trans (chk_nodes hchk) (by decide)))
          rw [hchk] at HCHK
          have HF := Lib.hid hF; have HE := Lib.hid hE
          have hne : ((q : Int) != (n0 : Int)) = false := by simp [hq]
          have hqe : (q : Int) = (n0 : Int) := by omega
          clear hr3 hr4 ho hF hE ht hq HRES ht4 hchk
          go_wp2_with fail
          refine HCHK.out.mono ?_
          rintro e w5 ⟨rfl, hb5⟩
          have HZ5 := Lib.hid (HZ4.out.below hb5 HZ4.out.lt)
          obtain ⟨q0, q1, q2, q3, u0, u1, u2, u3⟩ := HZ5.out.four
          have f0 := (hb5.cell (p := ⟨g8, 0, none⟩) hg84).trans t0; have f1 := (hb5.cell (p := ⟨g8, 1, none⟩) hg84).trans t1; have f2 := (hb5.cell (p := ⟨g8, 2, none⟩) hg84).trans t2; have f3 := (hb5.cell (p := ⟨g8, 3, none⟩) hg84).trans t3
          have HT5 := Lib.hid (HT4.out.under hb5 (fun b hb => Nat.lt_of_lt_of_le hb.2 HB34.out.size))
          have HB5 := Lib.hid (fbelow HB4.out hb5)
          have HZ45 := Lib.hid (Nat.le_trans HB34.out.size hb5.size)
          clear hb5 x0 x1 x2 x3 v0 v1 v2 v3 t0 t1 t2 t3 d0' d1' d2' d3'
          go_wp2_with fail
          obtain ⟨r0, r1, r2, r3, _, _, _, _⟩ := (put4_blk HZ5.out (.int .i64 k6) (.int .i64 m6) (.string s6) (.slice A6 l6 c6)).four
          unfold put4 at r0 r1 r2 r3
          refine bodyPost_ret (v := .tuple #[.agg #[.int .i64 k6, .int .i64 m6, .string s6, .slice A6 l6 c6], .int .i64 0]) (by simp [results, Try.results26, go_sem, r0, r1, r2, r3]) rfl ?_
          exact ⟨put4_below HB5.out (Nat.le_refl _) _ _ _ _, .inl ⟨t, _, HF.out, h6, HE.out, rfl, (HT5.out.keep (w' := put4 w5 w.heap.size (.int .i64 k6) (.int .i64 m6) (.string s6) (.slice A6 l6 c6)) (fun p hp => put4_cell _ _ _ _ _ _ p (fun e => by have := hp.1; have := HSZ.out; omega))).mono (fun b hb => ⟨by have := hb.1; have := HSZ.out; omega, by simp [World.setCell]; have := hb.2; have := HZ45.out; omega⟩)⟩⟩
        · have hF : rdF Ts l = none := by unfold rdF; rw [HX.out]; simp only [ho]; rw [if_neg (by rw [HN0.out]; exact hq)]
          have HE := Lib.hid (rdE_no h6 hF)
          have hne : ((q : Int) != (n0 : Int)) = true := by simp; omega
          have hqe : ¬ ((q : Int) = (n0 : Int)) := by omega
          clear hr3 hr4 ho hF ht hq HRES
          go_wp2_with fail
          obtain ⟨r0, r1, r2, r3, _, _, _, _⟩ := (put4_blk HZ4.out (.int .i64 0) (.int .i64 0) (.string ⟨#[]⟩) (.slice none 0 0)).four
          unfold put4 at r0 r1 r2 r3
          exact bodyPost_ret (v := .tuple #[.agg #[.int .i64 0, .int .i64 0, .string ⟨#[]⟩, .slice none 0 0], .int .i64 4]) (by simp [results, Try.results26, go_sem, r0, r1, r2, r3]) rfl (read_bad HB4.out HE.out (.inr rfl))
      · have HE := Lib.hid (rdE_no h6 (show rdF Ts l = none from by unfold rdF; rw [HX.out]; simp only [ho]))
        obtain ⟨d0', d1', d2', d3', _, _⟩ := (HR4.out _ _ hr3).four
        clear hr3 ho HRES
        go_wp2_with fail
        obtain ⟨r0, r1, r2, r3, _, _, _, _⟩ := (put4_blk HZ4.out (.int .i64 0) (.int .i64 0) (.string ⟨#[]⟩) (.slice none 0 0)).four
        unfold put4 at r0 r1 r2 r3
        exact bodyPost_ret (v := .tuple #[.agg #[.int .i64 0, .int .i64 0, .string ⟨#[]⟩, .slice none 0 0], .int .i64 4]) (by simp [results, Try.results26, go_sem, r0, r1, r2, r3]) rfl (read_bad HB4.out HE.out (.inr rfl))
  · have HE := Lib.hid (show rdE Ts l = 3 from by unfold rdE; rw [if_pos (by omega)])
    have b6 : decide ((65536 : Int) < (l.length : Int)) = true := decide_eq_true (by omega)
    clear h6
    go_enter Try.func26, Try.ntmps26
    go_wp2_with fail
    rw [HW0.out]
    exact bodyPost_ret (v := .tuple #[.agg #[.int .i64 0, .int .i64 0, .string ⟨#[]⟩, .slice none 0 0], .int .i64 3]) (by simp [results, Try.results26, go_sem, z0, z1, z2, z3]) rfl ⟨HB0.out, .inr ⟨.inl HE.out, by rw [HE.out]⟩⟩
/-- What the document's Part leaves. -/
def RPartPost (w : World) (G : Nat → Prop) (h : Nat) (Ts : List ByteArray) (l : List Int) (n : Int) (e : Ending) (w' : World) : Prop :=
  ∃ G' A c, e = .returned (.tuple #[.slice A (partW Ts l n).length c, .int .i64 (partE Ts l n)]) ∧ RTab w' G' h Ts ∧ (∀ k, G' k → G k ∨ w.heap.size ≤ k) ∧ Keep G w w' ∧ RO w' G' A (partW Ts l n).length (u64s (partW Ts l n))
theorem rpart_none {w w' : World} {G : Nat → Prop} {h : Nat} {Ts : List ByteArray} {l : List Int} {n x : Int} (hT : RTab w G h Ts) (hb : Below w.heap.size w w') (he : partE Ts l n = x) (hw : partW Ts l n = []) :
    RPartPost w G h Ts l n (.returned (.tuple #[.slice none 0 0, .int .i64 x])) w' :=
  ⟨G, none, 0, by rw [he, hw]; rfl, hT.keep (G := fun _ => False) (Keep.new hb) (fun _ _ h => h), fun k h => .inl h, Keep.new hb, by rw [hw]; exact ⟨rfl, fun h => absurd h (by simp)⟩⟩
theorem rpart_some {w w1 w' : World} {G : Nat → Prop} {h : Nat} {Ts : List ByteArray} {l : List Int} {n : Int} {u : Tm} {e : Ending} (hb : Below w.heap.size w w1) (h0 : rdE Ts l = 0) (ho : partO Ts l n = some u) (hat : ∀ s ∈ atoms u, s ∈ Ts) (hA64 : ∀ s ∈ Ts, s.size ≤ 64) (hp : RFlatPost w1 G h Ts u e w') :
    RPartPost w G h Ts l n e w' := by
  obtain ⟨G', A, c, rfl, h1, h2, h3, h4⟩ := hp
  have hE : partE Ts l n = flE Ts u := by unfold partE; rw [if_pos h0, ho]
  have hW : partW Ts l n = flW Ts u := by unfold partW; rw [if_pos h0, ho]
  have hL : flL Ts u = Ts := by
    unfold flL
    rw [nums_there u Ts hat hA64]
    split <;> rfl
  rw [hL] at h1
  exact ⟨G', A, c, by rw [hE, hW], h1, fun k hk => (h2 k hk).imp id (fun h => Nat.le_trans hb.size h), (Keep.new (F := G) hb).trans h3 (fun _ _ h => h), by rw [hW]; exact h4⟩
set_option maxRecDepth 100000 in
set_option maxHeartbeats 8000000 in
theorem rpart_any (h : Nat) (A : Option Addr) (l : List Int) (c : Nat) (G : Nat → Prop) (Ts : List ByteArray) (hU : ∀ x ∈ l, U64 x) (hlc : l.length ≤ c) (hA64 : ∀ s ∈ Ts, s.size ≤ 64) (n : Int) (hn : (Lit.int .i64 n).wf = true) (w : World) (hT : RTab w G h Ts) (hl : Reads w w.heap.size 1 A l.length (u64s l)) :
    Calls Try.prog 27 #[.pointer (some ⟨h, 0, none⟩), .slice A l.length c, .int .i64 n] w (RPartPost w G h Ts l n) := by
  have HRD := Lib.hid (rread_any h A l c G Ts hU hlc hA64 w hT hl)
  have HT := Lib.hid hT
  have HNW := Lib.hid hn
  have HCK := Lib.hid (fun t (h6 : l.length ≤ 65536) (h : rdF Ts l = some t) => rdF_chk hA64 hU h6 h)
  have HA64 := Lib.hid hA64
  clear hT hl hU hlc hA64
  go_enter Try.func27, Try.ntmps27
  go_wp2_with fail
  rename_i K1 hK1 K2 hK2
  refine HRD.out.mono ?_
  rintro e w1 ⟨hb1, (⟨t, v, hF, h6, hE, rfl, ht⟩ | ⟨hE, rfl⟩)⟩
  · obtain ⟨A1, c1, rfl, ok, hts⟩ := ht.inv
    obtain ⟨hchk, hats, _⟩ := HCK.out t h6 hF
    have hnd := chk_nodes hchk
    have HKK := Lib.hid hK1
    have HB1 := Lib.hid hb1
    have HTS := Lib.hid hts
    have HND := Lib.hid hnd
    unfold tv
    clear hK1 hb1 ok hts ht hchk hnd
    go_wp2_with fail
    refine HKK.out _ _ ?_
    have ht4 := Blk.new w1 24 #[.int .i64 t.k, .int .i64 t.n, .string t.s, .slice A1 t.l.length c1]
    have hb2 := ballocs (Below.refl w1.heap.size w1) (.cells #[.int .i64 t.k, .int .i64 t.n, .string t.s, .slice A1 t.l.length c1] 24)
    obtain ⟨w2, hw2⟩ : ∃ x, w1.alloc (.cells #[.int .i64 t.k, .int .i64 t.n, .string t.s, .slice A1 t.l.length c1] 24) = x := ⟨_, rfl⟩
    rw [hw2] at ht4 hb2 ⊢
    obtain ⟨t0, t1, t2, t3, _, _, _, _⟩ := ht4.four
    obtain ⟨g8, hg8⟩ : ∃ g8, w1.heap.size = g8 := ⟨_, rfl⟩
    rw [hg8] at t0 t1 t2 t3 ht4 ⊢
    have HB2 := Lib.hid hb2; have HB02 := Lib.hid (fbelow HB1.out hb2)
    have HG8 := Lib.hid hg8
    have HF := Lib.hid hF; have HE := Lib.hid hE
    clear hw2 hb2 ht4 hg8 hE
    by_cases hk7 : t.k = 7
    · by_cases hn1 : 1 ≤ n
      · by_cases hnl : n ≤ t.l.length
        · obtain ⟨j, hj⟩ : ∃ j : Nat, n = (j : Int) + 1 := ⟨(n - 1).toNat, by omega⟩
          obtain ⟨u, hu⟩ : ∃ u, t.l[j]? = some u := ⟨_, List.getElem?_eq_getElem (by omega)⟩
          have hum := List.mem_of_getElem? hu
          obtain ⟨bb, o, A2, c2, rfl, hb1, d0, d1, d2, d3, ok1, hta⟩ := (HTS.out.keep (w' := w2) (fun q hq => HB2.out.cell (by have := hq.2; omega))).at_ hu
          have HPO := Lib.hid (show partO Ts l n = some u from by
            unfold partO
            rw [HF.out]
            simp only
            rw [if_pos ⟨hk7, by omega⟩, show (n - 1).toNat = j from by omega]
            exact hu)
          have HAT := Lib.hid (show ∀ s ∈ atoms u, s ∈ Ts from fun s hs => hats s (atoms_part hk7 hum hs))
          have hnu : nodes u ≤ 1048576 := by
            have h1 := nodes_eq t
            have h2 := nodesL_mem hum
            have := HND.out
            omega
          have HFL := Lib.hid (rflat_any h Ts u _ w2 G (Fr w w1) (HT.out.keep (G := fun _ => False) (Keep.new HB02.out) (fun _ _ h => h)) (TAt.of ok1 hta) (fun b hb => ⟨Nat.lt_of_lt_of_le hb.2 HB2.out.size, fun hg => by have h1 := RTab.lt_ HT.out b hg; have h2 := hb.1; omega⟩) hnu)
          unfold tv at HFL
          have b7 : (t.k != 7) = false := by simp [hk7]
          have bn : decide (n < 1) = false := decide_eq_false (by omega)
          have bl : decide ((t.l.length : Int) < n) = false := decide_eq_false (by omega)
          have e1 : n - 1 = (j : Int) := by omega
          have ej : (j : Int) < (t.l.length : Int) := by omega
          have hj0 : (0 : Int) ≤ (j : Int) := by omega
          have hj6 : (j : Int) < 1048577 := by have h1 := nodes_eq t; have h2 := nodesL_len t.l; have := HND.out; omega
          have HH := Lib.hid hk7
          clear hk7 hn hF hats hum hnu hta ok1 hu hn1 hnl hj
          go_wp2_with fail
          refine HFL.out.mono ?_
          intro e w3 hp
          have HP := Lib.hid (rpart_some HB02.out HE.out HPO.out HAT.out HA64.out hp)
          obtain ⟨G', A9, c9, rfl, _⟩ := hp
          go_wp2_with fail
          go_ret2
          exact HP.out
        · have HPO := Lib.hid (show partO Ts l n = none from by
            unfold partO
            rw [HF.out]
            simp only
            rw [if_pos ⟨hk7, hn1⟩]
            exact List.getElem?_eq_none (by omega))
          have b7 : (t.k != 7) = false := by simp [hk7]
          have bn : decide (n < 1) = false := decide_eq_false (by omega)
          have bl : decide ((t.l.length : Int) < n) = true := decide_eq_true (by omega)
          clear hk7 hn hF hats hn1 hnl
          go_wp2_with fail
          go_ret2
          exact rpart_none HT.out HB02.out (by unfold partE; rw [if_pos HE.out, HPO.out]) (by unfold partW; rw [if_pos HE.out, HPO.out])
      · have HPO := Lib.hid (show partO Ts l n = none from by
          unfold partO
          rw [HF.out]
          simp only
          rw [if_neg (fun h => hn1 h.2)])
        have b7 : (t.k != 7) = false := by simp [hk7]
        have bn : decide (n < 1) = true := decide_eq_true (by omega)
        clear hk7 hn hF hats hn1
        go_wp2_with fail
        go_ret2
        exact rpart_none HT.out HB02.out (by unfold partE; rw [if_pos HE.out, HPO.out]) (by unfold partW; rw [if_pos HE.out, HPO.out])
    · have HPO := Lib.hid (show partO Ts l n = none from by
        unfold partO
        rw [HF.out]
        simp only
        rw [if_neg (fun h => hk7 h.1)])
      have b7 : (t.k != 7) = true := by simpa using hk7
      clear hk7 hn hF hats
      go_wp2_with fail
      go_ret2
      exact rpart_none HT.out HB02.out (by unfold partE; rw [if_pos HE.out, HPO.out]) (by unfold partW; rw [if_pos HE.out, HPO.out])
  · have HB1 := Lib.hid (fun o => ballocs hb1 o)
    have HW := Lib.hid (show partW Ts l n = [] from by unfold partW; rw [if_neg (by omega)])
    have HE := Lib.hid (show partE Ts l n = rdE Ts l from by unfold partE; rw [if_neg (by omega)])
    clear hb1
    rcases hE with hE | hE
    · rw [hE] at HE ⊢
      clear hE
      go_wp2_with fail
      go_ret2
      exact rpart_none HT.out (HB1.out _) HE.out HW.out
    · rw [hE] at HE ⊢
      clear hE
      go_wp2_with fail
      go_ret2
      exact rpart_none HT.out (HB1.out _) HE.out HW.out
end Go.Proofs.Ytfcialleekfjmaa.Fl
