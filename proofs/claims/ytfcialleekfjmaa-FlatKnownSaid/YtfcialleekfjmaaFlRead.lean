/- Read, by a contract. -/
import Derived.Test.YtfcialleekfjmaaFlTerm5
namespace Go.Proofs.Ytfcialleekfjmaa.Fl
open Go.RowKit K At Wd
set_option linter.unusedVariables false
set_option linter.unusedSimpArgs false

/-- What Read answers. -/
def ReadPost (w : World) (Ts : List ByteArray) (l : List Int) (e : Ending) (w' : World) : Prop :=
  Below w.heap.size w w' ∧ ((∃ t v, rdF Ts l = some t ∧ l.length ≤ 65536 ∧ rdE Ts l = 0 ∧ e = .returned (.tuple #[v, .int .i64 0]) ∧ TAt w' (Fr w w') t v) ∨ ((rdE Ts l = 3 ∨ rdE Ts l = 4) ∧ e = .returned (.tuple #[.agg #[.int .i64 0, .int .i64 0, .string ⟨#[]⟩, .slice none 0 0], .int .i64 (rdE Ts l)])))
theorem rdE_no {Ts : List ByteArray} {l : List Int} (h6 : l.length ≤ 65536) (h : rdF Ts l = none) : rdE Ts l = 4 := by
  unfold rdE; rw [if_neg (by omega), h]; rfl
theorem ret2_vn {v : Value} {a b : Int} (h' : a = b) : Ending.returned (.tuple #[v, .int .i64 a]) = .returned (.tuple #[v, .int .i64 b]) := by rw [h']
/-- An unsuccessful end. -/
theorem read_bad {w w5 : World} {Ts : List ByteArray} {l : List Int} {x : Int} (hb : Below w.heap.size w w5) (hx : rdE Ts l = x) (h : x = 3 ∨ x = 4) :
    ReadPost w Ts l (.returned (.tuple #[.agg #[.int .i64 0, .int .i64 0, .string ⟨#[]⟩, .slice none 0 0], .int .i64 x])) (put4 w5 w.heap.size (.int .i64 0) (.int .i64 0) (.string ⟨#[]⟩) (.slice none 0 0)) :=
  ⟨put4_below hb (Nat.le_refl _) _ _ _ _, .inr ⟨by rw [hx]; exact h, by rw [hx]⟩⟩
/-- A successful end. -/
theorem read_good {w w2 w3 : World} {Ts : List ByteArray} {l : List Int} {t : Tm} {k m : Int} {s : ByteArray} {A1 : Option Addr} {n c : Nat} {o : Obj} (hb : Below w.heap.size w w3) (h2 : w.heap.size < w2.heap.size) (h6 : l.length ≤ 65536) (hF : rdF Ts l = some t) (hE : rdE Ts l = 0)
    (ht : TAt w3 (Fr w2 w3) t (.agg #[.int .i64 k, .int .i64 m, .string s, .slice A1 n c])) :
    ReadPost w Ts l (.returned (.tuple #[.agg #[.int .i64 k, .int .i64 m, .string s, .slice A1 n c], .int .i64 0])) (put4 (w3.alloc o) w.heap.size (.int .i64 k) (.int .i64 m) (.string s) (.slice A1 n c)) :=
  ⟨put4_below (ballocs hb o) (Nat.le_refl _) _ _ _ _, .inl ⟨t, _, hF, h6, hE, rfl, (ht.keep (w' := put4 (w3.alloc o) w.heap.size (.int .i64 k) (.int .i64 m) (.string s) (.slice A1 n c)) (fun p hp => (put4_cell _ _ _ _ _ _ p (fun e => by have := hp.1; omega)).trans (World.cell?_alloc_lt w3 o p hp.2))).mono (fun b hb => ⟨by have := hb.1; omega, by rw [put4_size]; simp only [World.size_alloc]; have := hb.2; omega⟩)⟩⟩
set_option maxRecDepth 100000 in
set_option maxHeartbeats 8000000 in
theorem read_any (g : Nat) (A : Option Addr) (l : List Int) (c : Nat) (F : Nat → Prop) (Ts : List ByteArray) (hU : ∀ x ∈ l, U64 x) (hlc : l.length ≤ c) (hA : A = none → c = 0) (hA64 : ∀ s ∈ Ts, s.size ≤ 64) (w : World) (hT : Tab w F g Ts) (hl : Reads w w.heap.size 1 A l.length (u64s l)) :
    Calls Try.prog 10 #[.pointer (some ⟨g, 0, none⟩), .slice A l.length c] w (ReadPost w Ts l) := by
  obtain ⟨w0, hw0⟩ : ∃ x, w.alloc (.cells #[.int .i64 0, .int .i64 0, .string ⟨#[]⟩, .slice none 0 0] 24) = x := ⟨_, rfl⟩
  have hb0 : Below w.heap.size w w0 := by rw [← hw0]; exact ballocs (Below.refl _ _) _
  have hz0 : Blk w0 w.heap.size 24 tz := by rw [← hw0]; exact Blk.new _ _ _
  have hs0 : w0.heap.size = w.heap.size + 1 := by rw [← hw0]; simp
  have hT0 : Tab w0 F g Ts := hT.keep (G := fun _ => False) (Keep.new hb0) (fun _ _ h => h)
  have hl0 : Reads w0 w0.heap.size 1 A l.length (u64s l) := (hl.below hb0).more hb0.size
  have hFl : ∀ b, F b → b < w.heap.size := Tab.lt_ hT
  have HNO := Lib.hid (none_tab g Ts w0 F hT0)
  have HT0 := Lib.hid hT0; have HL0 := Lib.hid hl0; have HZ0 := Lib.hid hz0; have HB0 := Lib.hid hb0; have HFL := Lib.hid hFl
  obtain ⟨z0, z1, z2, z3, y0, y1, y2, y3⟩ := hz0.four
  have HW0 := Lib.hid hw0; have HS0 := Lib.hid hs0
  clear hT hl hT0 hl0 hz0 hb0 hFl hw0 hs0
  by_cases h6 : l.length ≤ 65536
  · have b6 : decide ((65536 : Int) < (l.length : Int)) = false := decide_eq_false (by omega)
    obtain ⟨gR, hgR⟩ : ∃ gR, w0.heap.size = gR := ⟨_, rfl⟩
    obtain ⟨w1, hw1⟩ : ∃ x, w0.alloc (.cells #[.pointer (some ⟨g, 0, none⟩), .slice A l.length c, .int .i64 0, .bool false] 77) = x := ⟨_, rfl⟩
    have hb1 : Below w0.heap.size w0 w1 := by rw [← hw1]; exact ballocs (Below.refl _ _) _
    have hr1 : Rdr w1 gR (.pointer (some ⟨g, 0, none⟩)) A l.length c ((0 : Nat) : Int) false := by rw [← hw1, ← hgR]; exact Blk.new _ _ _
    have hgl1 : gR < w1.heap.size := Blk.lt hr1
    have hgw : w.heap.size < gR := by have := HS0.out; omega
    have hen : REnv w1 gR g F Ts A l := ⟨HT0.out.keep (G := fun _ => False) (Keep.new hb1) (fun _ _ h => h), fun h => by have := HFL.out _ h; omega, by rw [← hgR]; exact HL0.out.below hb1, hgl1⟩
    have HR1 := Lib.hid hr1; have HEN := Lib.hid hen
    have HZ1 := Lib.hid (HZ0.out.below hb1 HZ0.out.lt)
    have HB1 := Lib.hid (fbelow HB0.out hb1)
    have HW1 := Lib.hid hw1; have HGR := Lib.hid hgR
    have HBK := Lib.hid (show ∀ wx, Keep (fun b => b = gR) w1 wx → Below w.heap.size w wx from fun wx hk => Keep.below HB1.out hk (by have := HB1.out.size; omega) (fun i hi (e : i = gR) => by omega))
    clear hr1 hen hw1 hgR hb1
    by_cases hnil : l.length = 0
    · have hE : rdE Ts l = 4 := rdE_no h6 (by rw [List.eq_nil_of_length_eq_zero hnil]; rfl)
      have HTK := Lib.hid (take_no gR (.pointer (some ⟨g, 0, none⟩)) A l.length c 0 1 w1 HR1.out h6 (Nat.zero_le _) (by decide) (by omega))
      have HE := Lib.hid hE
      clear hE hnil
      go_enter Try.func10, Try.ntmps10
      go_wp2_with fail
      rw [HW0.out]
      refine HNO.out.mono ?_
      rintro e w' ⟨rfl, rfl⟩
      go_wp2_with fail
      rw [HW1.out, HGR.out]
      refine HTK.out.mono ?_
      rintro e w2 ⟨rfl, hr2, hk2⟩
      obtain ⟨d0, d1, d2, d3, f2, f3⟩ := hr2.four
      have hz2 := HZ1.out.keep hk2 (fun (e : w.heap.size = gR) => by omega)
      obtain ⟨x0, x1, x2, x3, v0, v1, v2, v3⟩ := hz2.four
      have HZ2 := Lib.hid hz2; have HB2 := Lib.hid (HBK.out _ hk2)
      clear hr2 hk2 hz2
      go_wp2_with fail
      obtain ⟨r0, r1, r2, r3, _, _, _, _⟩ := (put4_blk HZ2.out (.int .i64 0) (.int .i64 0) (.string ⟨#[]⟩) (.slice none 0 0)).four
      unfold put4 at r0 r1 r2 r3
      exact bodyPost_ret (v := .tuple #[.agg #[.int .i64 0, .int .i64 0, .string ⟨#[]⟩, .slice none 0 0], .int .i64 4]) (by simp [results, Try.results10, go_sem, r0, r1, r2, r3]) rfl (read_bad HB2.out HE.out (.inr rfl))
    · obtain ⟨x, hx⟩ : ∃ x, l[0]? = some x := ⟨_, List.getElem?_eq_getElem (by omega)⟩
      have hUx : U64 x := hU x (List.mem_of_getElem? hx)
      have HTK := Lib.hid (take_ok gR (.pointer (some ⟨g, 0, none⟩)) A l c 0 1 w1 HR1.out HEN.out.2.2.1 hlc hA h6 (by omega))
      have HX := Lib.hid hx
      have HTM := Lib.hid (fun w (he : REnv w gR g F Ts A l) (hr : Rdr w gR (.pointer (some ⟨g, 0, none⟩)) A l.length c ((1 : Nat) : Int) false) => term_any gR A l c g F Ts hU hlc hA h6 hA64 (l.length + 1) x hUx 1 (by omega) (by omega) w he hr)
      clear hnil hx hU hlc hA hA64
      go_enter Try.func10, Try.ntmps10
      go_wp2_with fail
      rw [HW0.out]
      refine HNO.out.mono ?_
      rintro e w' ⟨rfl, rfl⟩
      go_wp2_with fail
      rw [HW1.out, HGR.out]
      refine HTK.out.mono ?_
      rintro e w2 ⟨A', c', rfl, hr2, hk2, hw2⟩
      obtain ⟨d0, d1, d2, d3, f2, f3⟩ := hr2.four
      have hz2 := HZ1.out.keep hk2 (fun (e : w.heap.size = gR) => by omega)
      have hen2 := HEN.out.keep hk2
      obtain ⟨ad, u, rfl, hab, hu, hcell⟩ := hw2.at_ (k := 0) (by omega)
      obtain rfl : u = .int .u64 x := took_one HX.out hu
      have hcell0 : w2.cell? ad = some (.int .u64 x) := by simpa [Addr.add] using hcell
      have HZ2 := Lib.hid hz2; have HR2 := Lib.hid hr2; have HEN2 := Lib.hid hen2; have HK2 := Lib.hid hk2
      clear hr2 hk2 hz2 hen2 hw2 hu hcell
      go_wp2_with fail
      rename_i K1 hK1 K2 hK2
      have HKK := Lib.hid hK1
      clear hK1
      refine (HTM.out _ HEN2.out HR2.out).mono ?_
      intro e w3 hpost
      obtain ⟨k6, m6, s6, A6, l6, c6, rfl, hk3, hres⟩ := hpost.form
      have hk23 := HK2.out.trans hk3 (fun _ _ h => h)
      have hz3 := HZ2.out.keep hk3 (fun (e : w.heap.size = gR) => by omega)
      have HZ3 := Lib.hid hz3
      have HB3 := Lib.hid (HBK.out _ hk23)
      have HRES := Lib.hid hres
      have HSZ := Lib.hid (show w.heap.size < w2.heap.size from HZ2.out.lt)
      have HSZ3 := Lib.hid (show gR < w3.heap.size from by have := hk23.size; omega)
      clear hpost hk3 hk23 hz3 hres d0 d1 d2 d3 f2 f3 hcell0
      go_wp2_with fail
      refine HKK.out _ _ ?_
      have ht4 := Blk.new w3 24 #[.int .i64 k6, .int .i64 m6, .string s6, .slice A6 l6 c6]
      have hz4 := HZ3.out.alloc (.cells #[.int .i64 k6, .int .i64 m6, .string s6, .slice A6 l6 c6] 24)
      have HR4 := Lib.hid (fun q b (h : Rdr w3 gR (.pointer (some ⟨g, 0, none⟩)) A l.length c q b) => (show Rdr (w3.alloc (.cells #[.int .i64 k6, .int .i64 m6, .string s6, .slice A6 l6 c6] 24)) gR (.pointer (some ⟨g, 0, none⟩)) A l.length c q b from Blk.alloc h _))
      have HB4 := Lib.hid (ballocs HB3.out (.cells #[.int .i64 k6, .int .i64 m6, .string s6, .slice A6 l6 c6] 24))
      have HG := Lib.hid (fun t (hF : rdF Ts l = some t) (hE : rdE Ts l = 0) (ht : TAt w3 (Fr w2 w3) t (.agg #[.int .i64 k6, .int .i64 m6, .string s6, .slice A6 l6 c6])) => read_good (o := .cells #[.int .i64 k6, .int .i64 m6, .string s6, .slice A6 l6 c6] 24) HB3.out HSZ.out h6 hF hE ht)
      obtain ⟨w4, hw4⟩ : ∃ x, w3.alloc (.cells #[.int .i64 k6, .int .i64 m6, .string s6, .slice A6 l6 c6] 24) = x := ⟨_, rfl⟩
      rw [hw4] at ht4 hz4 HR4 HB4 HG ⊢
      clear hw4
      obtain ⟨x0, x1, x2, x3, v0, v1, v2, v3⟩ := hz4.four
      obtain ⟨t0, t1, t2, t3, _, _, _, _⟩ := ht4.four
      have HZ4 := Lib.hid hz4
      obtain ⟨g8, hg8⟩ : ∃ g8, w3.heap.size = g8 := ⟨_, rfl⟩
      rw [hg8] at t0 t1 t2 t3 ht4 ⊢
      clear hz4 ht4 hg8
      rcases HRES.out with ⟨t, q, ho, ht, hr3⟩ | ⟨ho, q', hr3⟩
      · obtain ⟨d0', d1', d2', d3', _, _⟩ := (HR4.out _ _ hr3).four
        obtain ⟨n0, hn0⟩ : ∃ n0, l.length = n0 := ⟨_, rfl⟩
        by_cases hq : q = n0
        · have hF : rdF Ts l = some t := by unfold rdF; rw [HX.out]; simp only [ho]; rw [if_pos (by omega)]
          have hE : rdE Ts l = 0 := by unfold rdE; rw [if_neg (by omega), hF]; rfl
          have HGG := Lib.hid (HG.out t hF hE ht)
          have hne : ((q : Int) != (n0 : Int)) = false := by simp [hq]
          have hqe : (q : Int) = (n0 : Int) := by omega
          rw [hn0] at HW1 d1' ⊢
          clear hr3 ho hF hE ht hq HG HRES
          go_wp2_with fail
          obtain ⟨r0, r1, r2, r3, _, _, _, _⟩ := (put4_blk HZ4.out (.int .i64 k6) (.int .i64 m6) (.string s6) (.slice A6 l6 c6)).four
          unfold put4 at r0 r1 r2 r3
          exact bodyPost_ret (v := .tuple #[.agg #[.int .i64 k6, .int .i64 m6, .string s6, .slice A6 l6 c6], .int .i64 0]) (by simp [results, Try.results10, go_sem, r0, r1, r2, r3]) rfl HGG.out
        · have hF : rdF Ts l = none := by unfold rdF; rw [HX.out]; simp only [ho]; rw [if_neg (by omega)]
          have HE := Lib.hid (rdE_no h6 hF)
          have hne : ((q : Int) != (n0 : Int)) = true := by simp; omega
          have hqe : ¬ ((q : Int) = (n0 : Int)) := by omega
          rw [hn0] at HW1 d1' ⊢
          clear hr3 ho hF ht hq HG HRES
          go_wp2_with fail
          obtain ⟨r0, r1, r2, r3, _, _, _, _⟩ := (put4_blk HZ4.out (.int .i64 0) (.int .i64 0) (.string ⟨#[]⟩) (.slice none 0 0)).four
          unfold put4 at r0 r1 r2 r3
          exact bodyPost_ret (v := .tuple #[.agg #[.int .i64 0, .int .i64 0, .string ⟨#[]⟩, .slice none 0 0], .int .i64 4]) (by simp [results, Try.results10, go_sem, r0, r1, r2, r3]) rfl (read_bad HB4.out HE.out (.inr rfl))
      · have HE := Lib.hid (rdE_no h6 (show rdF Ts l = none from by unfold rdF; rw [HX.out]; simp only [ho]))
        obtain ⟨d0', d1', d2', d3', _, _⟩ := (HR4.out _ _ hr3).four
        clear hr3 ho HG HRES
        go_wp2_with fail
        obtain ⟨r0, r1, r2, r3, _, _, _, _⟩ := (put4_blk HZ4.out (.int .i64 0) (.int .i64 0) (.string ⟨#[]⟩) (.slice none 0 0)).four
        unfold put4 at r0 r1 r2 r3
        exact bodyPost_ret (v := .tuple #[.agg #[.int .i64 0, .int .i64 0, .string ⟨#[]⟩, .slice none 0 0], .int .i64 4]) (by simp [results, Try.results10, go_sem, r0, r1, r2, r3]) rfl (read_bad HB4.out HE.out (.inr rfl))
  · have HE := Lib.hid (show rdE Ts l = 3 from by unfold rdE; rw [if_pos (by omega)])
    have b6 : decide ((65536 : Int) < (l.length : Int)) = true := decide_eq_true (by omega)
    clear h6
    go_enter Try.func10, Try.ntmps10
    go_wp2_with fail
    rw [HW0.out]
    refine HNO.out.mono ?_
    rintro e w' ⟨rfl, rfl⟩
    go_wp2_with fail
    obtain ⟨r0, r1, r2, r3, _, _, _, _⟩ := (put4_blk HZ0.out (.int .i64 0) (.int .i64 0) (.string ⟨#[]⟩) (.slice none 0 0)).four
    unfold put4 at r0 r1 r2 r3
    exact bodyPost_ret (v := .tuple #[.agg #[.int .i64 0, .int .i64 0, .string ⟨#[]⟩, .slice none 0 0], .int .i64 3]) (by simp [results, Try.results10, go_sem, r0, r1, r2, r3]) rfl (read_bad HB0.out HE.out (.inl rfl))
end Go.Proofs.Ytfcialleekfjmaa.Fl
