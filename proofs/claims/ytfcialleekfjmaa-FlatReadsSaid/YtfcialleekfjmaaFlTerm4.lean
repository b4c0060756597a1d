/- flat.reader's term, by a contract: boxed words whose parts are taken. (Printed by mk_fterm4.py.) flat.reader's term, by its contract. Read, by a contract. -/
import Derived.Test.YtfcialleekfjmaaFlTerm
namespace Go.Proofs.Ytfcialleekfjmaa.Fl
open Go.RowKit K At Wd
set_option linter.unusedVariables false
set_option linter.unusedSimpArgs false
theorem reads_same {w w5 wr : World} {gR m : Nat} {A' : Option Addr} {xs : List Value} (h : Reads w5 gR 1 A' m xs) (hg : gR < w.heap.size) (h5 : Keep (fun b => b = gR) w w5) (hr : Keep (fun b => b = gR) w wr) : Reads wr gR 1 A' m xs :=
  h.keep fun p hp => (hr.cell (by omega) (fun (e : p.block = gR) => by omega)).trans (h5.cell (by omega) (fun (e : p.block = gR) => by omega)).symm
theorem u64_at {ws : List Int} {i : Nat} {u : Int} {v : Value} (hu : ws[i]? = some u) (hv : (u64s ws)[i]? = some v) : v = .int .u64 u := by
  unfold u64s at hv
  rw [List.getElem?_map, hu] at hv
  injection hv with hv
  exact hv.symm
/-- What the parts say. -/
def partsR (rd : Int → Nat → Option (Tm × Nat)) (k n : Int) (ws : List Int) (q0 : Nat) : Option (Tm × Nat) := match rdL rd ws q0 with
  | none => none
  | some y => some (.mk k n ⟨#[]⟩ y.1, y.2)
set_option maxRecDepth 100000 in
set_option maxHeartbeats 8000000 in
theorem box9_yes (gR : Nat) (p : Value) (A : Option Addr) (l : List Int) (c q : Nat) (x : Int) (hx : U64 x) (hk : unK x = 9) (hn : unN x = (q : Int)) (hy : unE x = 0) (hq : q ≤ l.length) (hl6 : l.length ≤ 65536) (hU : ∀ x ∈ l, U64 x) (hlc : l.length ≤ c) (hA : A = none → c = 0) (g : Nat) (F : Nat → Prop) (Ts : List ByteArray) (hA64 : ∀ s ∈ Ts, s.size ≤ 64) (fuel : Nat) (hf : l.length < q + (fuel + 1)) (IH : ∀ x : Int, U64 x → ∀ q : Nat, q ≤ l.length → l.length < q + fuel → ∀ w, REnv w gR g F Ts A l → Rdr w gR p A l.length c (q : Int) false → Calls Try.prog 41 #[.pointer (some ⟨gR, 0, none⟩), .int .u64 x] w (RdPost w gR p A l c (rdT Ts l fuel x q))) (r : Option (Tm × Nat)) (hres : r = partsR (rdT Ts l fuel) 9 0 ((l.drop q).take 2) (q + 2)) (hmq : q + 2 ≤ l.length) (w : World) (henv : REnv w gR g F Ts A l) (h : Rdr w gR p A l.length c q false) :
    Calls Try.prog 41 #[.pointer (some ⟨gR, 0, none⟩), .int .u64 x] w (RdPost w gR p A l c r) := by
  have HUN := Lib.hid (show ∀ w : World, Calls Try.prog 59 #[.int .u64 x] w (fun e w' => e = .returned (.tuple #[.int .i64 9, .int .i64 (q : Int), .int .i64 0]) ∧ Below w.heap.size w w') from fun w => by
    have h := unpack_any x hx.1 hx.2 w
    rw [hk, hn, hy] at h
    exact h)
  have H := Lib.hid h
  have hgl : gR < w.heap.size := Blk.lt H.out
  have hz := Blk.new w 24 #[.int .i64 0, .int .i64 0, .string ⟨#[]⟩, .slice none 0 0]
  have hb0 := ballocs (Below.refl w.heap.size w) (.cells #[.int .i64 0, .int .i64 0, .string ⟨#[]⟩, .slice none 0 0] 24)
  have HZ := Lib.hid hz; have HB0 := Lib.hid hb0
  clear hz hb0 h hx hk hn hy 
  go_enter Try.func41, Try.ntmps41
  go_wp2_with fail
  obtain ⟨w1, hw1⟩ : ∃ x, w.alloc (.cells #[.int .i64 0, .int .i64 0, .string ⟨#[]⟩, .slice none 0 0] 24) = x := ⟨_, rfl⟩
  rw [hw1] at HZ HB0 ⊢
  clear hw1
  refine (HUN.out w1).mono ?_
  rintro e w2 ⟨rfl, hb2⟩
  have hr2 := (H.out.below HB0.out).below hb2
  have hz2 := HZ.out.below hb2 HZ.out.lt
  have hlt2 : gR < w2.heap.size := Blk.lt hr2
  have hlz2 : w.heap.size < w2.heap.size := hz2.lt
  obtain ⟨d0, d1, d2, d3, f2, f3⟩ := hr2.four
  have hb02 := fbelow HB0.out hb2
  have hne : gR ≠ w.heap.size := by omega
  have HB02 := Lib.hid hb02; have HR2 := Lib.hid hr2; have HZ2 := Lib.hid hz2
  clear hb2 hr2 hz2 hb02
  go_wp2_with fail
  have HU := Lib.hid hU; have HA64 := Lib.hid hA64
  have hb3 := ballocs (Below.refl w2.heap.size w2) (.cells #[.int .i64 9, .int .i64 0, .string ⟨#[]⟩, .slice none 0 0] 24)
  have hg8 := Blk.new w2 24 #[.int .i64 9, .int .i64 0, .string ⟨#[]⟩, .slice none 0 0]
  obtain ⟨w3, hw3⟩ : ∃ x, w2.alloc (.cells #[.int .i64 9, .int .i64 0, .string ⟨#[]⟩, .slice none 0 0] 24) = x := ⟨_, rfl⟩
  rw [hw3] at hb3 hg8 ⊢
  clear hw3
  have hr3 := HR2.out.below hb3
  have hz3 := HZ2.out.below hb3 HZ2.out.lt
  have hb03 := fbelow HB02.out hb3
  obtain ⟨G8, hG8⟩ : ∃ G8, w2.heap.size = G8 := ⟨_, rfl⟩
  rw [hG8] at hg8 hlt2 hlz2 ⊢
  have hn8 : G8 ≠ gR := by omega
  have hn81 : G8 ≠ w.heap.size := by omega
  have hn1 : ¬ (w.heap.size = gR) := fun e => hne e.symm
  have HR3 := Lib.hid hr3; have HZ3 := Lib.hid hz3; have HB03 := Lib.hid hb03; have HG8 := Lib.hid hg8
  clear hr3 hz3 hb03 hb3 hg8 hG8 d0 d1 d2 d3 f2 f3
  have hl3 := (henv.keep (Keep.new (F := fun b => b = gR) HB03.out)).2.2.1
  refine (take_ok gR p A l c q 2 w3 HR3.out hl3 hlc hA hl6 hmq).mono ?_
  rintro e w5 ⟨A', c', rfl, hr5, hk5, hw5⟩
  clear hl3
  have hg5 := HG8.out.keep hk5 hn8
  have hz5 := HZ3.out.keep hk5 hn1
  have hk05 := (Keep.new (F := fun b => b = gR) HB03.out).trans hk5 (fun _ _ h => h)
  have HWS := Lib.hid (fun wr (hr : Keep (fun b => b = gR) w wr) => reads_same hw5 hgl hk05 hr)
  obtain ⟨ws, hws⟩ : ∃ ws, (l.drop q).take 2 = ws := ⟨_, rfl⟩
  have hwl : ws.length = 2 := by rw [← hws, List.length_take, List.length_drop]; omega
  have hUw : ∀ u ∈ ws, U64 u := fun u hu => hU u (List.mem_of_mem_drop (List.mem_of_mem_take (hws ▸ hu)))
  rw [hws] at HWS hres
  clear hws hw5
  have HI0 := Lib.hid (show RdI w w5 gR p A l c (rdT Ts l fuel) ws (q + 2) G8 9 0 0 from ⟨_, [], q + 2, by rw [List.take_zero]; rfl, Nat.le_refl _, hmq, hr5, hz5, hg5, TRow.none_ _ _ _, hk05⟩)
  have HUW := Lib.hid hUw; have HENV := Lib.hid henv; have HRS := Lib.hid hres; have HIH := Lib.hid IH
  clear hg5 hz5 hk5 hr5 hk05 hUw henv hres hU IH
  obtain ⟨i0, hin, hy0, hy1, hy2⟩ := info_parts infoT
  go_wp2_with fail
  go_loopw [100] (fun x wr => ∃ i : Nat, i ≤ 2 ∧ x = .int .i64 (i : Int) ∧ RdI w wr gR p A l c (rdT Ts l fuel) ws (q + 2) G8 9 0 i) (fun x _ => 2 - (intOf x).toNat)
  case atStart => exact ⟨0, Nat.zero_le _, rfl, HI0.out⟩
  case round =>
    obtain ⟨i, hi, rfl, row, ts, qi, hfl, hq0, hql, hr, hz, hg, hrow, hk⟩ := hrel
    clear HI0
    have hll : ts.length = i := by have := rdL_len hfl; rw [List.length_take, Nat.min_eq_left (by omega)] at this; exact this
    obtain ⟨A3, c3, rfl, _, _, _⟩ := hrow.form
    have HFL := Lib.hid hfl; have HG := Lib.hid hg; have HZR := Lib.hid hz; have HKR := Lib.hid hk; have HLL := Lib.hid hll
    by_cases hlt : i < 2
    · obtain ⟨u, hu⟩ : ∃ u, ws[i]? = some u := ⟨_, List.getElem?_eq_getElem (by omega)⟩
      have hUu : U64 u := HUW.out u (List.mem_of_getElem? hu)
      obtain ⟨ad, uv, rfl, hab, huv, hcell⟩ := (HWS.out wr hk).at_ (k := i) hlt
      obtain rfl : uv = .int .u64 u := u64_at hu huv
      have HC := Lib.hid (HIH.out u hUu qi hql (by omega) wr.drew (HENV.out.keep hk.drew) (show Rdr wr.drew gR p A l.length c (qi : Int) false from hr))
      have hij : ∀ x, rdT Ts l fuel u qi = some x → qi ≤ x.2 ∧ x.2 ≤ l.length := fun x hx => by
        have h := rdT_ok HA64.out HU.out fuel u qi x hUu hql hx
        exact ⟨by rw [h.q_eq]; omega, h.len⟩
      have HIJ := Lib.hid hij
      obtain ⟨G, vs, hV, hG, hRw⟩ := hrow
      have HV := Lib.hid hV; have HGG := Lib.hid hG; have HRw := Lib.hid hRw; have HUU := Lib.hid hu
      have hS0 : wr.drew.cell? ⟨G8, 3, none⟩ = some (.slice A3 ts.length c3) := hg.cell 3
      have b1 : ts.length + 1 ≤ maxLen := by unfold maxLen; omega
      have b2 : (ts.length + 1) * 56 ≤ 140737488355328 := by omega
      have hi0 : (0 : Int) ≤ (i : Int) := by omega
      have him : (i : Int) < 2 := by omega
      have hlr : gR < wr.heap.size := Blk.lt hr
      have hl8r : G8 < wr.heap.size := hg.lt
      clear hfl hr hz hg hk hu hUu huv hij hV hG hRw hll
      go_wp2_with fail
      refine Zed.begin (S := fun wx => wx.cell? ⟨G8, 3, none⟩ = some (.slice A3 ts.length c3)) (z := 8) (by kernel_rfl) hS0 (fun hHeld => ?_)
      refine Zed.take (i := 0) (oi := ⟨some 104, _, _, _, _, _⟩) (v := ?_) rfl (by kernel_rfl) (by kernel_rfl) (by kernel_rfl) (by kernel_rfl) (fun _ _ _ h => h) (Or.inl ⟨by rfl, ?_⟩) (by assumption) ?_
      rotate_left
      · intro wS hSw; (try dsimp only at hSw); go_simp; try with_reducible rfl
      try simp only [Act.put, List.setIfInBounds_toArray, List.set_cons_zero, List.set_cons_succ]
      refine Zed.take (i := 1) (oi := ⟨some 105, _, _, _, _, _⟩) (v := ?_) rfl (by kernel_rfl) (by kernel_rfl) (by kernel_rfl) (by kernel_rfl) (fun _ _ _ h => h) (Or.inl ⟨by rfl, ?_⟩) (by assumption) ?_
      rotate_left
      · intro wS hSw; (try dsimp only at hSw); go_simp; try with_reducible rfl
      try simp only [Act.put, List.setIfInBounds_toArray, List.set_cons_zero, List.set_cons_succ]
      refine Zed.take (i := 2) (oi := ⟨some 106, _, _, _, _, _⟩) (v := ?_) rfl (by kernel_rfl) (by kernel_rfl) (by kernel_rfl) (by kernel_rfl) (fun _ _ _ h => h) (Or.inl ⟨by rfl, ?_⟩) (by assumption) ?_
      rotate_left
      · intro wS hSw; (try dsimp only at hSw); go_simp; try with_reducible rfl
      try simp only [Act.put, List.setIfInBounds_toArray, List.set_cons_zero, List.set_cons_succ]
      refine Zed.take (i := 3) (oi := ⟨some 107, _, _, _, _, _⟩) (v := ?_) rfl (by kernel_rfl) (by kernel_rfl) (by kernel_rfl) (by kernel_rfl) (fun _ _ _ h => h) (Or.inl ⟨by rfl, ?_⟩) (by assumption) ?_
      rotate_left
      · intro wS hSw; (try dsimp only at hSw); go_simp; try with_reducible rfl
      try simp only [Act.put, List.setIfInBounds_toArray, List.set_cons_zero, List.set_cons_succ]
      refine Zed.ready (rs := [4]) (by kernel_rfl) (by simp) ?_
      refine Zeach.cons (o := ⟨some 108, _, _, _, _, _⟩) rfl (fun K hK => ?_) Zeach.nil
      go_simp
      go_at_call 41
      refine HC.out.mono ?_
      rintro e w6 hpost
      obtain ⟨k6, m6, s6, A6, l6, c6, rfl, hk6, hres⟩ := hpost.form
      have hk6r := (Keep.refl (fun b => b = gR) wr).drew.trans hk6 (fun _ _ h => h)
      have hg6 := HG.out.keep hk6r hn8
      have hS6 : w6.cell? ⟨G8, 3, none⟩ = some (.slice A3 ts.length c3) := hg6.cell 3
      have hS7 : ∀ o, (w6.alloc o).cell? ⟨G8, 3, none⟩ = some (.slice A3 ts.length c3) := fun o => (hg6.alloc o).cell 3
      have HK6 := Lib.hid hk6r; have HG6 := Lib.hid hg6; have HRES := Lib.hid hres; have HS7 := Lib.hid hS7
      clear hpost hk6 hk6r hg6 hres hS7
      go_wp2_with fail
      refine hK.out _ _ hS6 (fun hHeld => ?_)
      clear hK K
      try simp only [Act.put, List.setIfInBounds_toArray, List.set_cons_zero, List.set_cons_succ]
      refine Zed.ready (rs := [5]) (by kernel_rfl) (by simp) ?_
      refine Zeach.cons (o := ⟨some 109, _, _, _, _, _⟩) rfl (fun K hK => ?_) Zeach.nil
      go_simp
      refine hK.out _ _ (HS7.out _) (fun hHeld => ?_)
      clear hK K
      try simp only [Act.put, List.setIfInBounds_toArray, List.set_cons_zero, List.set_cons_succ]
      refine Zed.ready (rs := [6]) (by kernel_rfl) (by simp) ?_
      refine Zeach.cons (o := ⟨some 110, _, _, _, _, _⟩) rfl (fun K hK => ?_) Zeach.nil
      have hR7 := (ownsRow_keep HRw.out HK6.out (fun r hr (e : r = gR) => by have := (HRw.out.lt r hr).1; omega)).alloc (.cells #[.int .i64 k6, .int .i64 m6, .string s6, .slice A6 l6 c6] 24)
      have hc4 := cells4_new w6 (.int .i64 k6) (.int .i64 m6) (.string s6) (.slice A6 l6 c6) 24
      have b3 : G8 + 1 ≤ (w6.alloc (.cells #[.int .i64 k6, .int .i64 m6, .string s6, .slice A6 l6 c6] 24)).heap.size := by have := HG6.out.lt; simp; omega
      obtain ⟨v3, w3, run3, hR3, hg3, _, hat3⟩ := run_append_own_at (P := Try.prog) (w6.alloc (.cells #[.int .i64 k6, .int .i64 m6, .string s6, .slice A6 l6 c6] 24)) (G8 + 1) 22 22 24 i0 _ 4 56 Try.underlying22 hin hy0 hy1 hy2 rfl (by decide) (.slice A3 ts.length c3) ts.length _ hR7 ⟨w6.heap.size, 0, none⟩ 1 1 [.int .i64 k6, .int .i64 m6, .string s6, .slice A6 l6 c6] rfl hc4 (one4 _ _ _ _ _ _) b1 b2 b3
      obtain ⟨A5, c5, rfl, _, _⟩ := ownsRow_form hR3
      have hg23 := (HG6.out.alloc (.cells #[.int .i64 k6, .int .i64 m6, .string s6, .slice A6 l6 c6] 24)).grown hg3 (fun e => by have := (HRw.out.lt _ e.symm).1; omega)
      obtain ⟨x0, x1, x2, x3, y0, y1, y2, y3⟩ := hg23.four
      have HKP := Lib.hid (fun v => round_keeps (p := p) (A := A) (l := l) (c := c) hgl hlz2 HZR.out HG.out HKR.out HK6.out hg3 (fun r hr => HRw.out.lt r hr) v)
      have HR3 := Lib.hid hR3; have HG3 := Lib.hid hg3; have HAT3 := Lib.hid hat3
      clear hR3 hg3 hat3 hg23 hR7 hc4 b3
      refine step_append_run (.tmp 105) (.tmp 109) 22 _ _ _ run3 rfl rfl (by simp [Act.eval, Act.put]) (by simp [Act.eval, Act.put]) ?_
      refine hK.out _ _ x3 (fun hHeld => ?_)
      clear hK K
      try simp only [Act.put, List.setIfInBounds_toArray, List.set_cons_zero, List.set_cons_succ]
      refine Zed.take (i := 7) (oi := ⟨some 111, _, _, _, _, _⟩) (v := ?_) rfl (by kernel_rfl) (by kernel_rfl) (by kernel_rfl) (by kernel_rfl) (fun _ _ _ h => h) (Or.inl ⟨by rfl, ?_⟩) (by assumption) ?_
      rotate_left
      · intro wS hSw; (try dsimp only at hSw); go_simp; try with_reducible rfl
      try simp only [Act.put, List.setIfInBounds_toArray, List.set_cons_zero, List.set_cons_succ]
      refine Zed.ready (rs := [8]) (by kernel_rfl) (by simp) ?_
      refine Zeach.last (o := ⟨none, _, _, _, _, _⟩) rfl (fun K hK => ?_)
      go_simp
      refine hK.out _ _ ?_
      clear hK K
      try simp only [Act.put, List.setIfInBounds_toArray, List.set_cons_zero, List.set_cons_succ]
      refine Zed.done (by kernel_rfl) ?_ _
      obtain ⟨hz9, hg9, hk9, hrr⟩ := HKP.out (.slice A5 (ts.length + 1) c5)
      rcases HRES.out with ⟨t, qj, ho, ht, hr6⟩ | ⟨ho, q', hr6⟩
      · obtain ⟨hij, hj⟩ := HIJ.out _ ho
        have HI := Lib.hid (RdI.step hgl hlz2 HFL.out hq0 HUU.out ho hij hj HZR.out HG.out HKR.out HV.out HGG.out HRw.out HK6.out ht hr6 HG3.out HR3.out HAT3.out)
        have hr9 := hrr _ _ hr6
        obtain ⟨d0, d1, d2, d3, _, _⟩ := hr9.four
        obtain ⟨w9, hw9⟩ : ∃ x, w3.setCell ⟨G8, 3, none⟩ (.slice A5 (ts.length + 1) c5) = x := ⟨_, rfl⟩
        rw [hw9] at HI d0 d1 d2 d3 ⊢
        clear hw9 hz9 hg9 hk9 hrr hr9 ht hr6 ho hij hj x0 x1 x2 x3 y0 y1 y2 y3 hS6 run3 HKP HR3 HG3 HAT3 HRES
        go_wp2_with fail
        exact ⟨⟨i + 1, by omega, by go_num, HI.out⟩, by simp [intOf]; omega⟩
      · have hr9 := hrr _ _ hr6
        have hno := HRS.out
        unfold partsR at hno
        rw [rdL_stop _ HUU.out HFL.out ho] at hno
        simp only at hno
        subst hno
        obtain ⟨d0, d1, d2, d3, _, _⟩ := hr9.four
        obtain ⟨z0, z1, z2, z3, t0, t1, t2, t3⟩ := hz9.four
        obtain ⟨o0, o1, o2, o3, _, _, _, _⟩ := hg9.four
        obtain ⟨w9, hw9⟩ : ∃ x, w3.setCell ⟨G8, 3, none⟩ (.slice A5 (ts.length + 1) c5) = x := ⟨_, rfl⟩
        rw [hw9] at hz9 hk9 hr9 d0 d1 d2 d3 z0 z1 z2 z3 t0 t1 t2 t3 o0 o1 o2 o3 ⊢
        have HZ9 := Lib.hid hz9; have HK9 := Lib.hid hk9; have HR9 := Lib.hid hr9
        clear hw9 hz9 hg9 hk9 hrr hr9 hr6 ho x0 x1 x2 x3 y0 y1 y2 y3 hS6 run3 HKP HR3 HG3 HAT3 HRES
        go_wp2_with fail
        obtain ⟨r0, r1, r2, r3, _, _, _, _⟩ := (put4_blk HZ9.out (.int .i64 9) (.int .i64 0) (.string ⟨#[]⟩) (.slice A5 (ts.length + 1) c5)).four
        unfold put4 at r0 r1 r2 r3
        refine bodyPost_ret (v := .agg #[.int .i64 9, .int .i64 0, .string ⟨#[]⟩, .slice A5 (ts.length + 1) c5]) (by simp [results, Try.results41, go_sem, r0, r1, r2, r3]) rfl ?_
        exact rd_bad2 HK9.out HR9.out hgl
    · obtain rfl : i = 2 := by omega
      rw [List.take_of_length_le (by omega)] at hfl
      have hyes := HRS.out
      unfold partsR at hyes
      rw [hfl] at hyes
      simp only at hyes
      subst hyes
      have HD := Lib.hid (RdI.done (k := 9) (n := 0) hgl hlz2 (by decide) (by decide) hr hrow hk)
      obtain ⟨z0, z1, z2, z3, t0, t1, t2, t3⟩ := hz.four
      obtain ⟨o0, o1, o2, o3, _, _, _, _⟩ := hg.four
      obtain ⟨d0, d1, d2, d3, _, _⟩ := hr.four
      clear hfl hr hz hg hrow hk hll
      go_wp2_with fail
      obtain ⟨r0, r1, r2, r3, _, _, _, _⟩ := (put4_blk HZR.out (.int .i64 9) (.int .i64 0) (.string ⟨#[]⟩) (.slice A3 ts.length c3)).four
      unfold put4 at r0 r1 r2 r3
      exact bodyPost_ret (v := .agg #[.int .i64 9, .int .i64 0, .string ⟨#[]⟩, .slice A3 ts.length c3]) (by simp [results, Try.results41, go_sem, r0, r1, r2, r3]) rfl HD.out
set_option maxRecDepth 100000 in
set_option maxHeartbeats 8000000 in
theorem box7_yes (gR : Nat) (p : Value) (A : Option Addr) (l : List Int) (c q : Nat) (x : Int) (hx : U64 x) (hk : unK x = 7) (hn : unN x = (q : Int)) (hy : unE x = 0) (hq : q ≤ l.length) (hl6 : l.length ≤ 65536) (hU : ∀ x ∈ l, U64 x) (hlc : l.length ≤ c) (hA : A = none → c = 0) (g : Nat) (F : Nat → Prop) (Ts : List ByteArray) (hA64 : ∀ s ∈ Ts, s.size ≤ 64) (fuel : Nat) (hf : l.length < q + (fuel + 1)) (IH : ∀ x : Int, U64 x → ∀ q : Nat, q ≤ l.length → l.length < q + fuel → ∀ w, REnv w gR g F Ts A l → Rdr w gR p A l.length c (q : Int) false → Calls Try.prog 41 #[.pointer (some ⟨gR, 0, none⟩), .int .u64 x] w (RdPost w gR p A l c (rdT Ts l fuel x q))) (x4 : Int) (hx4 : l[q]? = some x4) (he4 : unE x4 = 0) (hk4 : unK x4 = 10) (m : Nat) (hm4 : unN x4 = (m : Int)) (r : Option (Tm × Nat)) (hres : r = partsR (rdT Ts l fuel) 7 0 ((l.drop (q + 1)).take m) (q + 1 + m)) (hmq : q + 1 + m ≤ l.length) (w : World) (henv : REnv w gR g F Ts A l) (h : Rdr w gR p A l.length c q false) :
    Calls Try.prog 41 #[.pointer (some ⟨gR, 0, none⟩), .int .u64 x] w (RdPost w gR p A l c r) := by
  have HUN := Lib.hid (show ∀ w : World, Calls Try.prog 59 #[.int .u64 x] w (fun e w' => e = .returned (.tuple #[.int .i64 7, .int .i64 (q : Int), .int .i64 0]) ∧ Below w.heap.size w w') from fun w => by
    have h := unpack_any x hx.1 hx.2 w
    rw [hk, hn, hy] at h
    exact h)
  have H := Lib.hid h
  have hgl : gR < w.heap.size := Blk.lt H.out
  have hz := Blk.new w 24 #[.int .i64 0, .int .i64 0, .string ⟨#[]⟩, .slice none 0 0]
  have hb0 := ballocs (Below.refl w.heap.size w) (.cells #[.int .i64 0, .int .i64 0, .string ⟨#[]⟩, .slice none 0 0] 24)
  have HZ := Lib.hid hz; have HB0 := Lib.hid hb0
  clear hz hb0 h hx hk hn hy 
  go_enter Try.func41, Try.ntmps41
  go_wp2_with fail
  obtain ⟨w1, hw1⟩ : ∃ x, w.alloc (.cells #[.int .i64 0, .int .i64 0, .string ⟨#[]⟩, .slice none 0 0] 24) = x := ⟨_, rfl⟩
  rw [hw1] at HZ HB0 ⊢
  clear hw1
  refine (HUN.out w1).mono ?_
  rintro e w2 ⟨rfl, hb2⟩
  have hr2 := (H.out.below HB0.out).below hb2
  have hz2 := HZ.out.below hb2 HZ.out.lt
  have hlt2 : gR < w2.heap.size := Blk.lt hr2
  have hlz2 : w.heap.size < w2.heap.size := hz2.lt
  obtain ⟨d0, d1, d2, d3, f2, f3⟩ := hr2.four
  have hb02 := fbelow HB0.out hb2
  have hne : gR ≠ w.heap.size := by omega
  have HB02 := Lib.hid hb02; have HR2 := Lib.hid hr2; have HZ2 := Lib.hid hz2
  clear hb2 hr2 hz2 hb02
  go_wp2_with fail
  have hb3 := ballocs (Below.refl w2.heap.size w2) (.cells #[.int .i64 7, .int .i64 0, .string ⟨#[]⟩, .slice none 0 0] 24)
  have hg8 := Blk.new w2 24 #[.int .i64 7, .int .i64 0, .string ⟨#[]⟩, .slice none 0 0]
  obtain ⟨w3, hw3⟩ : ∃ x, w2.alloc (.cells #[.int .i64 7, .int .i64 0, .string ⟨#[]⟩, .slice none 0 0] 24) = x := ⟨_, rfl⟩
  rw [hw3] at hb3 hg8 ⊢
  clear hw3
  have hr3 := HR2.out.below hb3
  have hz3 := HZ2.out.below hb3 HZ2.out.lt
  have hb03 := fbelow HB02.out hb3
  obtain ⟨G8, hG8⟩ : ∃ G8, w2.heap.size = G8 := ⟨_, rfl⟩
  rw [hG8] at hg8 hlt2 hlz2 ⊢
  have hn8 : G8 ≠ gR := by omega
  have hn81 : G8 ≠ w.heap.size := by omega
  have hn1 : ¬ (w.heap.size = gR) := fun e => hne e.symm
  have HR3 := Lib.hid hr3; have HZ3 := Lib.hid hz3; have HB03 := Lib.hid hb03; have HG8 := Lib.hid hg8
  clear hr3 hz3 hb03 hb3 hg8 hG8 d0 d1 d2 d3 f2 f3
  have HU := Lib.hid hU; have HA64 := Lib.hid hA64
  have hl3 := (henv.keep (Keep.new (F := fun b => b = gR) HB03.out)).2.2.1
  refine (head_any gR p A l c q 10 (by decide) w3 HR3.out hl3 hU hlc hA hl6 hq).mono ?_
  rintro e w4 ⟨hk4', (⟨y4, hy4, _, _, rfl, hr4⟩ | ⟨hno4, rfl, q4, hr4⟩)⟩
  rotate_left
  · exact absurd ⟨he4, hk4⟩ (hno4 _ hx4)
  obtain rfl : x4 = y4 := by rw [hx4] at hy4; injection hy4
  obtain ⟨_, _, n1, n2, n3, _, _⟩ := un_facts he4
  rw [hk4] at n1 n2 n3
  have e1 : low 10 = 0 := rfl
  have e2 : high 10 = 64 := rfl
  rw [hm4] at n1 n2 n3 ⊢
  rw [e1] at n1
  rw [e2] at n2
  have hg4 := HG8.out.keep hk4' hn8
  have hz4 := HZ3.out.keep hk4' hn1
  have HK4 := Lib.hid (((Keep.new (F := fun b => b = gR) HB03.out)).trans hk4' (fun _ _ h => h))
  have HG4 := Lib.hid hg4; have HZ4 := Lib.hid hz4; have HR4 := Lib.hid hr4
  obtain ⟨o0, o1, o2, o3, u0, u1, u2, u3⟩ := hg4.four
  have hlt4 : gR < w4.heap.size := Blk.lt hr4
  have h84 : G8 < w4.heap.size := hg4.lt
  have HRS0 := Lib.hid hres; have HU0 := Lib.hid hU; have HEN0 := Lib.hid henv; have HIH0 := Lib.hid IH
  clear hg4 hz4 hr4 hk4' hU hl3 e1 e2 hy4 hk4 he4 hx4 hm4 henv hres IH
  go_wp2_with fail
  have hres := HRS0.out; have hU := HU0.out; have henv := HEN0.out; have IH := HIH0.out
  clear HRS0 HU0 HEN0 HIH0
  refine (take_ok gR p A l c (q + 1) m w4 HR4.out (henv.keep HK4.out).2.2.1 hlc hA hl6 hmq).mono ?_
  rintro e w5 ⟨A', c', rfl, hr5, hk5, hw5⟩
  have hg5 := HG4.out.keep hk5 hn8
  have hz5 := HZ4.out.keep hk5 hn1
  have hk05 := HK4.out.trans hk5 (fun _ _ h => h)
  have HWS := Lib.hid (fun wr (hr : Keep (fun b => b = gR) w wr) => reads_same hw5 hgl hk05 hr)
  obtain ⟨ws, hws⟩ : ∃ ws, (l.drop (q + 1)).take m = ws := ⟨_, rfl⟩
  have hwl : ws.length = m := by rw [← hws, List.length_take, List.length_drop]; omega
  have hUw : ∀ u ∈ ws, U64 u := fun u hu => hU u (List.mem_of_mem_drop (List.mem_of_mem_take (hws ▸ hu)))
  rw [hws] at HWS hres
  clear hws hw5
  have HI0 := Lib.hid (show RdI w w5 gR p A l c (rdT Ts l fuel) ws ((q + 1) + m) G8 7 0 0 from ⟨_, [], (q + 1) + m, by rw [List.take_zero]; rfl, Nat.le_refl _, hmq, hr5, hz5, hg5, TRow.none_ _ _ _, hk05⟩)
  have HUW := Lib.hid hUw; have HENV := Lib.hid henv; have HRS := Lib.hid hres; have HIH := Lib.hid IH
  clear hg5 hz5 hk5 hr5 hk05 hUw henv hres hU IH
  obtain ⟨i0, hin, hy0, hy1, hy2⟩ := info_parts infoT
  go_wp2_with fail
  go_loopw [100] (fun x wr => ∃ i : Nat, i ≤ m ∧ x = .int .i64 (i : Int) ∧ RdI w wr gR p A l c (rdT Ts l fuel) ws ((q + 1) + m) G8 7 0 i) (fun x _ => m - (intOf x).toNat)
  case atStart => exact ⟨0, Nat.zero_le _, rfl, HI0.out⟩
  case round =>
    obtain ⟨i, hi, rfl, row, ts, qi, hfl, hq0, hql, hr, hz, hg, hrow, hk⟩ := hrel
    clear HI0
    have hll : ts.length = i := by have := rdL_len hfl; rw [List.length_take, Nat.min_eq_left (by omega)] at this; exact this
    obtain ⟨A3, c3, rfl, _, _, _⟩ := hrow.form
    have HFL := Lib.hid hfl; have HG := Lib.hid hg; have HZR := Lib.hid hz; have HKR := Lib.hid hk; have HLL := Lib.hid hll
    by_cases hlt : i < m
    · obtain ⟨u, hu⟩ : ∃ u, ws[i]? = some u := ⟨_, List.getElem?_eq_getElem (by omega)⟩
      have hUu : U64 u := HUW.out u (List.mem_of_getElem? hu)
      obtain ⟨ad, uv, rfl, hab, huv, hcell⟩ := (HWS.out wr hk).at_ (k := i) hlt
      obtain rfl : uv = .int .u64 u := u64_at hu huv
      have HC := Lib.hid (HIH.out u hUu qi hql (by omega) wr.drew (HENV.out.keep hk.drew) (show Rdr wr.drew gR p A l.length c (qi : Int) false from hr))
      have hij : ∀ x, rdT Ts l fuel u qi = some x → qi ≤ x.2 ∧ x.2 ≤ l.length := fun x hx => by
        have h := rdT_ok HA64.out HU.out fuel u qi x hUu hql hx
        exact ⟨by rw [h.q_eq]; omega, h.len⟩
      have HIJ := Lib.hid hij
      obtain ⟨G, vs, hV, hG, hRw⟩ := hrow
      have HV := Lib.hid hV; have HGG := Lib.hid hG; have HRw := Lib.hid hRw; have HUU := Lib.hid hu
      have hS0 : wr.drew.cell? ⟨G8, 3, none⟩ = some (.slice A3 ts.length c3) := hg.cell 3
      have b1 : ts.length + 1 ≤ maxLen := by unfold maxLen; omega
      have b2 : (ts.length + 1) * 56 ≤ 140737488355328 := by omega
      have hi0 : (0 : Int) ≤ (i : Int) := by omega
      have him : (i : Int) < (m : Int) := by omega
      have hlr : gR < wr.heap.size := Blk.lt hr
      have hl8r : G8 < wr.heap.size := hg.lt
      clear hfl hr hz hg hk hu hUu huv hij hV hG hRw hll
      go_wp2_with fail
      refine Zed.begin (S := fun wx => wx.cell? ⟨G8, 3, none⟩ = some (.slice A3 ts.length c3)) (z := 8) (by kernel_rfl) hS0 (fun hHeld => ?_)
      refine Zed.take (i := 0) (oi := ⟨some 104, _, _, _, _, _⟩) (v := ?_) rfl (by kernel_rfl) (by kernel_rfl) (by kernel_rfl) (by kernel_rfl) (fun _ _ _ h => h) (Or.inl ⟨by rfl, ?_⟩) (by assumption) ?_
      rotate_left
      · intro wS hSw; (try dsimp only at hSw); go_simp; try with_reducible rfl
      try simp only [Act.put, List.setIfInBounds_toArray, List.set_cons_zero, List.set_cons_succ]
      refine Zed.take (i := 1) (oi := ⟨some 105, _, _, _, _, _⟩) (v := ?_) rfl (by kernel_rfl) (by kernel_rfl) (by kernel_rfl) (by kernel_rfl) (fun _ _ _ h => h) (Or.inl ⟨by rfl, ?_⟩) (by assumption) ?_
      rotate_left
      · intro wS hSw; (try dsimp only at hSw); go_simp; try with_reducible rfl
      try simp only [Act.put, List.setIfInBounds_toArray, List.set_cons_zero, List.set_cons_succ]
      refine Zed.take (i := 2) (oi := ⟨some 106, _, _, _, _, _⟩) (v := ?_) rfl (by kernel_rfl) (by kernel_rfl) (by kernel_rfl) (by kernel_rfl) (fun _ _ _ h => h) (Or.inl ⟨by rfl, ?_⟩) (by assumption) ?_
      rotate_left
      · intro wS hSw; (try dsimp only at hSw); go_simp; try with_reducible rfl
      try simp only [Act.put, List.setIfInBounds_toArray, List.set_cons_zero, List.set_cons_succ]
      refine Zed.take (i := 3) (oi := ⟨some 107, _, _, _, _, _⟩) (v := ?_) rfl (by kernel_rfl) (by kernel_rfl) (by kernel_rfl) (by kernel_rfl) (fun _ _ _ h => h) (Or.inl ⟨by rfl, ?_⟩) (by assumption) ?_
      rotate_left
      · intro wS hSw; (try dsimp only at hSw); go_simp; try with_reducible rfl
      try simp only [Act.put, List.setIfInBounds_toArray, List.set_cons_zero, List.set_cons_succ]
      refine Zed.ready (rs := [4]) (by kernel_rfl) (by simp) ?_
      refine Zeach.cons (o := ⟨some 108, _, _, _, _, _⟩) rfl (fun K hK => ?_) Zeach.nil
      go_simp
      go_at_call 41
      refine HC.out.mono ?_
      rintro e w6 hpost
      obtain ⟨k6, m6, s6, A6, l6, c6, rfl, hk6, hres⟩ := hpost.form
      have hk6r := (Keep.refl (fun b => b = gR) wr).drew.trans hk6 (fun _ _ h => h)
      have hg6 := HG.out.keep hk6r hn8
      have hS6 : w6.cell? ⟨G8, 3, none⟩ = some (.slice A3 ts.length c3) := hg6.cell 3
      have hS7 : ∀ o, (w6.alloc o).cell? ⟨G8, 3, none⟩ = some (.slice A3 ts.length c3) := fun o => (hg6.alloc o).cell 3
      have HK6 := Lib.hid hk6r; have HG6 := Lib.hid hg6; have HRES := Lib.hid hres; have HS7 := Lib.hid hS7
      clear hpost hk6 hk6r hg6 hres hS7
      go_wp2_with fail
      refine hK.out _ _ hS6 (fun hHeld => ?_)
      clear hK K
      try simp only [Act.put, List.setIfInBounds_toArray, List.set_cons_zero, List.set_cons_succ]
      refine Zed.ready (rs := [5]) (by kernel_rfl) (by simp) ?_
      refine Zeach.cons (o := ⟨some 109, _, _, _, _, _⟩) rfl (fun K hK => ?_) Zeach.nil
      go_simp
      refine hK.out _ _ (HS7.out _) (fun hHeld => ?_)
      clear hK K
      try simp only [Act.put, List.setIfInBounds_toArray, List.set_cons_zero, List.set_cons_succ]
      refine Zed.ready (rs := [6]) (by kernel_rfl) (by simp) ?_
      refine Zeach.cons (o := ⟨some 110, _, _, _, _, _⟩) rfl (fun K hK => ?_) Zeach.nil
      have hR7 := (ownsRow_keep HRw.out HK6.out (fun r hr (e : r = gR) => by have := (HRw.out.lt r hr).1; omega)).alloc (.cells #[.int .i64 k6, .int .i64 m6, .string s6, .slice A6 l6 c6] 24)
      have hc4 := cells4_new w6 (.int .i64 k6) (.int .i64 m6) (.string s6) (.slice A6 l6 c6) 24
      have b3 : G8 + 1 ≤ (w6.alloc (.cells #[.int .i64 k6, .int .i64 m6, .string s6, .slice A6 l6 c6] 24)).heap.size := by have := HG6.out.lt; simp; omega
      obtain ⟨v3, w3, run3, hR3, hg3, _, hat3⟩ := run_append_own_at (P := Try.prog) (w6.alloc (.cells #[.int .i64 k6, .int .i64 m6, .string s6, .slice A6 l6 c6] 24)) (G8 + 1) 22 22 24 i0 _ 4 56 Try.underlying22 hin hy0 hy1 hy2 rfl (by decide) (.slice A3 ts.length c3) ts.length _ hR7 ⟨w6.heap.size, 0, none⟩ 1 1 [.int .i64 k6, .int .i64 m6, .string s6, .slice A6 l6 c6] rfl hc4 (one4 _ _ _ _ _ _) b1 b2 b3
      obtain ⟨A5, c5, rfl, _, _⟩ := ownsRow_form hR3
      have hg23 := (HG6.out.alloc (.cells #[.int .i64 k6, .int .i64 m6, .string s6, .slice A6 l6 c6] 24)).grown hg3 (fun e => by have := (HRw.out.lt _ e.symm).1; omega)
      obtain ⟨x0, x1, x2, x3, y0, y1, y2, y3⟩ := hg23.four
      have HKP := Lib.hid (fun v => round_keeps (p := p) (A := A) (l := l) (c := c) hgl hlz2 HZR.out HG.out HKR.out HK6.out hg3 (fun r hr => HRw.out.lt r hr) v)
      have HR3 := Lib.hid hR3; have HG3 := Lib.hid hg3; have HAT3 := Lib.hid hat3
      clear hR3 hg3 hat3 hg23 hR7 hc4 b3
      refine step_append_run (.tmp 105) (.tmp 109) 22 _ _ _ run3 rfl rfl (by simp [Act.eval, Act.put]) (by simp [Act.eval, Act.put]) ?_
      refine hK.out _ _ x3 (fun hHeld => ?_)
      clear hK K
      try simp only [Act.put, List.setIfInBounds_toArray, List.set_cons_zero, List.set_cons_succ]
      refine Zed.take (i := 7) (oi := ⟨some 111, _, _, _, _, _⟩) (v := ?_) rfl (by kernel_rfl) (by kernel_rfl) (by kernel_rfl) (by kernel_rfl) (fun _ _ _ h => h) (Or.inl ⟨by rfl, ?_⟩) (by assumption) ?_
      rotate_left
      · intro wS hSw; (try dsimp only at hSw); go_simp; try with_reducible rfl
      try simp only [Act.put, List.setIfInBounds_toArray, List.set_cons_zero, List.set_cons_succ]
      refine Zed.ready (rs := [8]) (by kernel_rfl) (by simp) ?_
      refine Zeach.last (o := ⟨none, _, _, _, _, _⟩) rfl (fun K hK => ?_)
      go_simp
      refine hK.out _ _ ?_
      clear hK K
      try simp only [Act.put, List.setIfInBounds_toArray, List.set_cons_zero, List.set_cons_succ]
      refine Zed.done (by kernel_rfl) ?_ _
      obtain ⟨hz9, hg9, hk9, hrr⟩ := HKP.out (.slice A5 (ts.length + 1) c5)
      rcases HRES.out with ⟨t, qj, ho, ht, hr6⟩ | ⟨ho, q', hr6⟩
      · obtain ⟨hij, hj⟩ := HIJ.out _ ho
        have HI := Lib.hid (RdI.step hgl hlz2 HFL.out hq0 HUU.out ho hij hj HZR.out HG.out HKR.out HV.out HGG.out HRw.out HK6.out ht hr6 HG3.out HR3.out HAT3.out)
        have hr9 := hrr _ _ hr6
        obtain ⟨d0, d1, d2, d3, _, _⟩ := hr9.four
        obtain ⟨w9, hw9⟩ : ∃ x, w3.setCell ⟨G8, 3, none⟩ (.slice A5 (ts.length + 1) c5) = x := ⟨_, rfl⟩
        rw [hw9] at HI d0 d1 d2 d3 ⊢
        clear hw9 hz9 hg9 hk9 hrr hr9 ht hr6 ho hij hj x0 x1 x2 x3 y0 y1 y2 y3 hS6 run3 HKP HR3 HG3 HAT3 HRES
        go_wp2_with fail
        exact ⟨⟨i + 1, by omega, by go_num, HI.out⟩, by simp [intOf]; omega⟩
      · have hr9 := hrr _ _ hr6
        have hno := HRS.out
        unfold partsR at hno
        rw [rdL_stop _ HUU.out HFL.out ho] at hno
        simp only at hno
        subst hno
        obtain ⟨d0, d1, d2, d3, _, _⟩ := hr9.four
        obtain ⟨z0, z1, z2, z3, t0, t1, t2, t3⟩ := hz9.four
        obtain ⟨o0, o1, o2, o3, _, _, _, _⟩ := hg9.four
        obtain ⟨w9, hw9⟩ : ∃ x, w3.setCell ⟨G8, 3, none⟩ (.slice A5 (ts.length + 1) c5) = x := ⟨_, rfl⟩
        rw [hw9] at hz9 hk9 hr9 d0 d1 d2 d3 z0 z1 z2 z3 t0 t1 t2 t3 o0 o1 o2 o3 ⊢
        have HZ9 := Lib.hid hz9; have HK9 := Lib.hid hk9; have HR9 := Lib.hid hr9
        clear hw9 hz9 hg9 hk9 hrr hr9 hr6 ho x0 x1 x2 x3 y0 y1 y2 y3 hS6 run3 HKP HR3 HG3 HAT3 HRES
        go_wp2_with fail
        obtain ⟨r0, r1, r2, r3, _, _, _, _⟩ := (put4_blk HZ9.out (.int .i64 7) (.int .i64 0) (.string ⟨#[]⟩) (.slice A5 (ts.length + 1) c5)).four
        unfold put4 at r0 r1 r2 r3
        refine bodyPost_ret (v := .agg #[.int .i64 7, .int .i64 0, .string ⟨#[]⟩, .slice A5 (ts.length + 1) c5]) (by simp [results, Try.results41, go_sem, r0, r1, r2, r3]) rfl ?_
        exact rd_bad2 HK9.out HR9.out hgl
    · obtain rfl : i = m := by omega
      rw [List.take_of_length_le (by omega)] at hfl
      have hyes := HRS.out
      unfold partsR at hyes
      rw [hfl] at hyes
      simp only at hyes
      subst hyes
      have HD := Lib.hid (RdI.done (k := 7) (n := 0) hgl hlz2 (by decide) (by decide) hr hrow hk)
      obtain ⟨z0, z1, z2, z3, t0, t1, t2, t3⟩ := hz.four
      obtain ⟨o0, o1, o2, o3, _, _, _, _⟩ := hg.four
      obtain ⟨d0, d1, d2, d3, _, _⟩ := hr.four
      clear hfl hr hz hg hrow hk hll
      go_wp2_with fail
      obtain ⟨r0, r1, r2, r3, _, _, _, _⟩ := (put4_blk HZR.out (.int .i64 7) (.int .i64 0) (.string ⟨#[]⟩) (.slice A3 ts.length c3)).four
      unfold put4 at r0 r1 r2 r3
      exact bodyPost_ret (v := .agg #[.int .i64 7, .int .i64 0, .string ⟨#[]⟩, .slice A3 ts.length c3]) (by simp [results, Try.results41, go_sem, r0, r1, r2, r3]) rfl HD.out
set_option maxRecDepth 100000 in
set_option maxHeartbeats 8000000 in
theorem box5_yes (gR : Nat) (p : Value) (A : Option Addr) (l : List Int) (c q : Nat) (x : Int) (hx : U64 x) (hk : unK x = 5) (hn : unN x = (q : Int)) (hy : unE x = 0) (hq : q ≤ l.length) (hl6 : l.length ≤ 65536) (hU : ∀ x ∈ l, U64 x) (hlc : l.length ≤ c) (hA : A = none → c = 0) (g : Nat) (F : Nat → Prop) (Ts : List ByteArray) (hA64 : ∀ s ∈ Ts, s.size ≤ 64) (fuel : Nat) (hf : l.length < q + (fuel + 1)) (IH : ∀ x : Int, U64 x → ∀ q : Nat, q ≤ l.length → l.length < q + fuel → ∀ w, REnv w gR g F Ts A l → Rdr w gR p A l.length c (q : Int) false → Calls Try.prog 41 #[.pointer (some ⟨gR, 0, none⟩), .int .u64 x] w (RdPost w gR p A l c (rdT Ts l fuel x q))) (x4 : Int) (hx4 : l[q]? = some x4) (he4 : unE x4 = 0) (hk4 : unK x4 = 11) (m : Nat) (hm4 : unN x4 = (m : Int)) (a b : Nat) (ha : (m : Int) / 128 = (a : Int)) (hb : (m : Int) % 128 = (b : Int)) (r : Option (Tm × Nat)) (hres : r = partsR (rdT Ts l fuel) 5 (a : Int) ((l.drop (q + 1)).take b) (q + 1 + b)) (hmq : q + 1 + b ≤ l.length) (w : World) (henv : REnv w gR g F Ts A l) (h : Rdr w gR p A l.length c q false) :
    Calls Try.prog 41 #[.pointer (some ⟨gR, 0, none⟩), .int .u64 x] w (RdPost w gR p A l c r) := by
  have HUN := Lib.hid (show ∀ w : World, Calls Try.prog 59 #[.int .u64 x] w (fun e w' => e = .returned (.tuple #[.int .i64 5, .int .i64 (q : Int), .int .i64 0]) ∧ Below w.heap.size w w') from fun w => by
    have h := unpack_any x hx.1 hx.2 w
    rw [hk, hn, hy] at h
    exact h)
  have H := Lib.hid h
  have hgl : gR < w.heap.size := Blk.lt H.out
  have hz := Blk.new w 24 #[.int .i64 0, .int .i64 0, .string ⟨#[]⟩, .slice none 0 0]
  have hb0 := ballocs (Below.refl w.heap.size w) (.cells #[.int .i64 0, .int .i64 0, .string ⟨#[]⟩, .slice none 0 0] 24)
  have HZ := Lib.hid hz; have HB0 := Lib.hid hb0
  clear hz hb0 h hx hk hn hy 
  go_enter Try.func41, Try.ntmps41
  go_wp2_with fail
  obtain ⟨w1, hw1⟩ : ∃ x, w.alloc (.cells #[.int .i64 0, .int .i64 0, .string ⟨#[]⟩, .slice none 0 0] 24) = x := ⟨_, rfl⟩
  rw [hw1] at HZ HB0 ⊢
  clear hw1
  refine (HUN.out w1).mono ?_
  rintro e w2 ⟨rfl, hb2⟩
  have hr2 := (H.out.below HB0.out).below hb2
  have hz2 := HZ.out.below hb2 HZ.out.lt
  have hlt2 : gR < w2.heap.size := Blk.lt hr2
  have hlz2 : w.heap.size < w2.heap.size := hz2.lt
  obtain ⟨d0, d1, d2, d3, f2, f3⟩ := hr2.four
  have hb02 := fbelow HB0.out hb2
  have hne : gR ≠ w.heap.size := by omega
  have HB02 := Lib.hid hb02; have HR2 := Lib.hid hr2; have HZ2 := Lib.hid hz2
  clear hb2 hr2 hz2 hb02
  go_wp2_with fail
  have hb3 := ballocs (Below.refl w2.heap.size w2) (.cells #[.int .i64 5, .int .i64 0, .string ⟨#[]⟩, .slice none 0 0] 24)
  have hg8 := Blk.new w2 24 #[.int .i64 5, .int .i64 0, .string ⟨#[]⟩, .slice none 0 0]
  obtain ⟨w3, hw3⟩ : ∃ x, w2.alloc (.cells #[.int .i64 5, .int .i64 0, .string ⟨#[]⟩, .slice none 0 0] 24) = x := ⟨_, rfl⟩
  rw [hw3] at hb3 hg8 ⊢
  clear hw3
  have hr3 := HR2.out.below hb3
  have hz3 := HZ2.out.below hb3 HZ2.out.lt
  have hb03 := fbelow HB02.out hb3
  obtain ⟨G8, hG8⟩ : ∃ G8, w2.heap.size = G8 := ⟨_, rfl⟩
  rw [hG8] at hg8 hlt2 hlz2 ⊢
  have hn8 : G8 ≠ gR := by omega
  have hn81 : G8 ≠ w.heap.size := by omega
  have hn1 : ¬ (w.heap.size = gR) := fun e => hne e.symm
  have HR3 := Lib.hid hr3; have HZ3 := Lib.hid hz3; have HB03 := Lib.hid hb03; have HG8 := Lib.hid hg8
  clear hr3 hz3 hb03 hb3 hg8 hG8 d0 d1 d2 d3 f2 f3
  have HU := Lib.hid hU; have HA64 := Lib.hid hA64
  have hl3 := (henv.keep (Keep.new (F := fun b => b = gR) HB03.out)).2.2.1
  refine (head_any gR p A l c q 11 (by decide) w3 HR3.out hl3 hU hlc hA hl6 hq).mono ?_
  rintro e w4 ⟨hk4', (⟨y4, hy4, _, _, rfl, hr4⟩ | ⟨hno4, rfl, q4, hr4⟩)⟩
  rotate_left
  · exact absurd ⟨he4, hk4⟩ (hno4 _ hx4)
  obtain rfl : x4 = y4 := by rw [hx4] at hy4; injection hy4
  obtain ⟨_, _, n1, n2, n3, _, _⟩ := un_facts he4
  rw [hk4] at n1 n2 n3
  have e1 : low 11 = 0 := rfl
  have e2 : high 11 = 137438953536 := rfl
  rw [hm4] at n1 n2 n3 ⊢
  rw [e1] at n1
  rw [e2] at n2
  have hg4 := HG8.out.keep hk4' hn8
  have hz4 := HZ3.out.keep hk4' hn1
  have HK4 := Lib.hid (((Keep.new (F := fun b => b = gR) HB03.out)).trans hk4' (fun _ _ h => h))
  have HG4 := Lib.hid hg4; have HZ4 := Lib.hid hz4; have HR4 := Lib.hid hr4
  obtain ⟨o0, o1, o2, o3, u0, u1, u2, u3⟩ := hg4.four
  have hlt4 : gR < w4.heap.size := Blk.lt hr4
  have h84 : G8 < w4.heap.size := hg4.lt
  have HRS0 := Lib.hid hres; have HU0 := Lib.hid hU; have HEN0 := Lib.hid henv; have HIH0 := Lib.hid IH
  clear hg4 hz4 hr4 hk4' hU hl3 e1 e2 hy4 hk4 he4 hx4 hm4 henv hres IH
  go_wp2_with fail
  have hb7 : b < 128 := by omega
  have hwn : (Lit.int .i64 (a : Int)).wf = true := WalkArith.wf_i64 (by omega)

  clear ha hb n1 n2 n3
  obtain ⟨hg41, hz41, hr41, hk41⟩ := store8 (v := .int .i64 (a : Int)) HG4.out HZ4.out HR4.out HK4.out hn8 hlz2
  obtain ⟨w41, hw41⟩ : ∃ x, w4.setCell ⟨G8, 1, none⟩ (.int .i64 (a : Int)) = x := ⟨_, rfl⟩
  rw [hw41] at hg41 hz41 hr41 hk41 ⊢
  clear hw41 HG4 HZ4 HR4 HK4 o0 o1 o2 o3 u0 u1 u2 u3
  have HG4 := Lib.hid hg41; have HZ4 := Lib.hid hz41; have HR4 := Lib.hid hr41; have HK4 := Lib.hid hk41
  clear hg41 hz41 hr41 hk41
  have hres := HRS0.out; have hU := HU0.out; have henv := HEN0.out; have IH := HIH0.out
  clear HRS0 HU0 HEN0 HIH0
  refine (take_ok gR p A l c (q + 1) b w41 HR4.out (henv.keep HK4.out).2.2.1 hlc hA hl6 hmq).mono ?_
  rintro e w5 ⟨A', c', rfl, hr5, hk5, hw5⟩
  have hg5 := HG4.out.keep hk5 hn8
  have hz5 := HZ4.out.keep hk5 hn1
  have hk05 := HK4.out.trans hk5 (fun _ _ h => h)
  have HWS := Lib.hid (fun wr (hr : Keep (fun b => b = gR) w wr) => reads_same hw5 hgl hk05 hr)
  obtain ⟨ws, hws⟩ : ∃ ws, (l.drop (q + 1)).take b = ws := ⟨_, rfl⟩
  have hwl : ws.length = b := by rw [← hws, List.length_take, List.length_drop]; omega
  have hUw : ∀ u ∈ ws, U64 u := fun u hu => hU u (List.mem_of_mem_drop (List.mem_of_mem_take (hws ▸ hu)))
  rw [hws] at HWS hres
  clear hws hw5
  have HI0 := Lib.hid (show RdI w w5 gR p A l c (rdT Ts l fuel) ws ((q + 1) + b) G8 5 (a : Int) 0 from ⟨_, [], (q + 1) + b, by rw [List.take_zero]; rfl, Nat.le_refl _, hmq, hr5, hz5, hg5, TRow.none_ _ _ _, hk05⟩)
  have HUW := Lib.hid hUw; have HENV := Lib.hid henv; have HRS := Lib.hid hres; have HIH := Lib.hid IH
  clear hg5 hz5 hk5 hr5 hk05 hUw henv hres hU IH
  obtain ⟨i0, hin, hy0, hy1, hy2⟩ := info_parts infoT
  go_wp2_with fail
  go_loopw [100] (fun x wr => ∃ i : Nat, i ≤ b ∧ x = .int .i64 (i : Int) ∧ RdI w wr gR p A l c (rdT Ts l fuel) ws ((q + 1) + b) G8 5 (a : Int) i) (fun x _ => b - (intOf x).toNat)
  case atStart => exact ⟨0, Nat.zero_le _, rfl, HI0.out⟩
  case round =>
    obtain ⟨i, hi, rfl, row, ts, qi, hfl, hq0, hql, hr, hz, hg, hrow, hk⟩ := hrel
    clear HI0
    have hll : ts.length = i := by have := rdL_len hfl; rw [List.length_take, Nat.min_eq_left (by omega)] at this; exact this
    obtain ⟨A3, c3, rfl, _, _, _⟩ := hrow.form
    have HFL := Lib.hid hfl; have HG := Lib.hid hg; have HZR := Lib.hid hz; have HKR := Lib.hid hk; have HLL := Lib.hid hll
    by_cases hlt : i < b
    · obtain ⟨u, hu⟩ : ∃ u, ws[i]? = some u := ⟨_, List.getElem?_eq_getElem (by omega)⟩
      have hUu : U64 u := HUW.out u (List.mem_of_getElem? hu)
      obtain ⟨ad, uv, rfl, hab, huv, hcell⟩ := (HWS.out wr hk).at_ (k := i) hlt
      obtain rfl : uv = .int .u64 u := u64_at hu huv
      have HC := Lib.hid (HIH.out u hUu qi hql (by omega) wr.drew (HENV.out.keep hk.drew) (show Rdr wr.drew gR p A l.length c (qi : Int) false from hr))
      have hij : ∀ x, rdT Ts l fuel u qi = some x → qi ≤ x.2 ∧ x.2 ≤ l.length := fun x hx => by
        have h := rdT_ok HA64.out HU.out fuel u qi x hUu hql hx
        exact ⟨by rw [h.q_eq]; omega, h.len⟩
      have HIJ := Lib.hid hij
      obtain ⟨G, vs, hV, hG, hRw⟩ := hrow
      have HV := Lib.hid hV; have HGG := Lib.hid hG; have HRw := Lib.hid hRw; have HUU := Lib.hid hu
      have hS0 : wr.drew.cell? ⟨G8, 3, none⟩ = some (.slice A3 ts.length c3) := hg.cell 3
      have b1 : ts.length + 1 ≤ maxLen := by unfold maxLen; omega
      have b2 : (ts.length + 1) * 56 ≤ 140737488355328 := by omega
      have hi0 : (0 : Int) ≤ (i : Int) := by omega
      have him : (i : Int) < (b : Int) := by omega
      have hlr : gR < wr.heap.size := Blk.lt hr
      have hl8r : G8 < wr.heap.size := hg.lt
      clear hfl hr hz hg hk hu hUu huv hij hV hG hRw hll
      go_wp2_with fail
      refine Zed.begin (S := fun wx => wx.cell? ⟨G8, 3, none⟩ = some (.slice A3 ts.length c3)) (z := 8) (by kernel_rfl) hS0 (fun hHeld => ?_)
      refine Zed.take (i := 0) (oi := ⟨some 104, _, _, _, _, _⟩) (v := ?_) rfl (by kernel_rfl) (by kernel_rfl) (by kernel_rfl) (by kernel_rfl) (fun _ _ _ h => h) (Or.inl ⟨by rfl, ?_⟩) (by assumption) ?_
      rotate_left
      · intro wS hSw; (try dsimp only at hSw); go_simp; try with_reducible rfl
      try simp only [Act.put, List.setIfInBounds_toArray, List.set_cons_zero, List.set_cons_succ]
      refine Zed.take (i := 1) (oi := ⟨some 105, _, _, _, _, _⟩) (v := ?_) rfl (by kernel_rfl) (by kernel_rfl) (by kernel_rfl) (by kernel_rfl) (fun _ _ _ h => h) (Or.inl ⟨by rfl, ?_⟩) (by assumption) ?_
      rotate_left
      · intro wS hSw; (try dsimp only at hSw); go_simp; try with_reducible rfl
      try simp only [Act.put, List.setIfInBounds_toArray, List.set_cons_zero, List.set_cons_succ]
      refine Zed.take (i := 2) (oi := ⟨some 106, _, _, _, _, _⟩) (v := ?_) rfl (by kernel_rfl) (by kernel_rfl) (by kernel_rfl) (by kernel_rfl) (fun _ _ _ h => h) (Or.inl ⟨by rfl, ?_⟩) (by assumption) ?_
      rotate_left
      · intro wS hSw; (try dsimp only at hSw); go_simp; try with_reducible rfl
      try simp only [Act.put, List.setIfInBounds_toArray, List.set_cons_zero, List.set_cons_succ]
      refine Zed.take (i := 3) (oi := ⟨some 107, _, _, _, _, _⟩) (v := ?_) rfl (by kernel_rfl) (by kernel_rfl) (by kernel_rfl) (by kernel_rfl) (fun _ _ _ h => h) (Or.inl ⟨by rfl, ?_⟩) (by assumption) ?_
      rotate_left
      · intro wS hSw; (try dsimp only at hSw); go_simp; try with_reducible rfl
      try simp only [Act.put, List.setIfInBounds_toArray, List.set_cons_zero, List.set_cons_succ]
      refine Zed.ready (rs := [4]) (by kernel_rfl) (by simp) ?_
      refine Zeach.cons (o := ⟨some 108, _, _, _, _, _⟩) rfl (fun K hK => ?_) Zeach.nil
      go_simp
      go_at_call 41
      refine HC.out.mono ?_
      rintro e w6 hpost
      obtain ⟨k6, m6, s6, A6, l6, c6, rfl, hk6, hres⟩ := hpost.form
      have hk6r := (Keep.refl (fun b => b = gR) wr).drew.trans hk6 (fun _ _ h => h)
      have hg6 := HG.out.keep hk6r hn8
      have hS6 : w6.cell? ⟨G8, 3, none⟩ = some (.slice A3 ts.length c3) := hg6.cell 3
      have hS7 : ∀ o, (w6.alloc o).cell? ⟨G8, 3, none⟩ = some (.slice A3 ts.length c3) := fun o => (hg6.alloc o).cell 3
      have HK6 := Lib.hid hk6r; have HG6 := Lib.hid hg6; have HRES := Lib.hid hres; have HS7 := Lib.hid hS7
      clear hpost hk6 hk6r hg6 hres hS7
      go_wp2_with fail
      refine hK.out _ _ hS6 (fun hHeld => ?_)
      clear hK K
      try simp only [Act.put, List.setIfInBounds_toArray, List.set_cons_zero, List.set_cons_succ]
      refine Zed.ready (rs := [5]) (by kernel_rfl) (by simp) ?_
      refine Zeach.cons (o := ⟨some 109, _, _, _, _, _⟩) rfl (fun K hK => ?_) Zeach.nil
      go_simp
      refine hK.out _ _ (HS7.out _) (fun hHeld => ?_)
      clear hK K
      try simp only [Act.put, List.setIfInBounds_toArray, List.set_cons_zero, List.set_cons_succ]
      refine Zed.ready (rs := [6]) (by kernel_rfl) (by simp) ?_
      refine Zeach.cons (o := ⟨some 110, _, _, _, _, _⟩) rfl (fun K hK => ?_) Zeach.nil
      have hR7 := (ownsRow_keep HRw.out HK6.out (fun r hr (e : r = gR) => by have := (HRw.out.lt r hr).1; omega)).alloc (.cells #[.int .i64 k6, .int .i64 m6, .string s6, .slice A6 l6 c6] 24)
      have hc4 := cells4_new w6 (.int .i64 k6) (.int .i64 m6) (.string s6) (.slice A6 l6 c6) 24
      have b3 : G8 + 1 ≤ (w6.alloc (.cells #[.int .i64 k6, .int .i64 m6, .string s6, .slice A6 l6 c6] 24)).heap.size := by have := HG6.out.lt; simp; omega
      obtain ⟨v3, w3, run3, hR3, hg3, _, hat3⟩ := run_append_own_at (P := Try.prog) (w6.alloc (.cells #[.int .i64 k6, .int .i64 m6, .string s6, .slice A6 l6 c6] 24)) (G8 + 1) 22 22 24 i0 _ 4 56 Try.underlying22 hin hy0 hy1 hy2 rfl (by decide) (.slice A3 ts.length c3) ts.length _ hR7 ⟨w6.heap.size, 0, none⟩ 1 1 [.int .i64 k6, .int .i64 m6, .string s6, .slice A6 l6 c6] rfl hc4 (one4 _ _ _ _ _ _) b1 b2 b3
      obtain ⟨A5, c5, rfl, _, _⟩ := ownsRow_form hR3
      have hg23 := (HG6.out.alloc (.cells #[.int .i64 k6, .int .i64 m6, .string s6, .slice A6 l6 c6] 24)).grown hg3 (fun e => by have := (HRw.out.lt _ e.symm).1; omega)
      obtain ⟨x0, x1, x2, x3, y0, y1, y2, y3⟩ := hg23.four
      have HKP := Lib.hid (fun v => round_keeps (p := p) (A := A) (l := l) (c := c) hgl hlz2 HZR.out HG.out HKR.out HK6.out hg3 (fun r hr => HRw.out.lt r hr) v)
      have HR3 := Lib.hid hR3; have HG3 := Lib.hid hg3; have HAT3 := Lib.hid hat3
      clear hR3 hg3 hat3 hg23 hR7 hc4 b3
      refine step_append_run (.tmp 105) (.tmp 109) 22 _ _ _ run3 rfl rfl (by simp [Act.eval, Act.put]) (by simp [Act.eval, Act.put]) ?_
      refine hK.out _ _ x3 (fun hHeld => ?_)
      clear hK K
      try simp only [Act.put, List.setIfInBounds_toArray, List.set_cons_zero, List.set_cons_succ]
      refine Zed.take (i := 7) (oi := ⟨some 111, _, _, _, _, _⟩) (v := ?_) rfl (by kernel_rfl) (by kernel_rfl) (by kernel_rfl) (by kernel_rfl) (fun _ _ _ h => h) (Or.inl ⟨by rfl, ?_⟩) (by assumption) ?_
      rotate_left
      · intro wS hSw; (try dsimp only at hSw); go_simp; try with_reducible rfl
      try simp only [Act.put, List.setIfInBounds_toArray, List.set_cons_zero, List.set_cons_succ]
      refine Zed.ready (rs := [8]) (by kernel_rfl) (by simp) ?_
      refine Zeach.last (o := ⟨none, _, _, _, _, _⟩) rfl (fun K hK => ?_)
      go_simp
      refine hK.out _ _ ?_
      clear hK K
      try simp only [Act.put, List.setIfInBounds_toArray, List.set_cons_zero, List.set_cons_succ]
      refine Zed.done (by kernel_rfl) ?_ _
      obtain ⟨hz9, hg9, hk9, hrr⟩ := HKP.out (.slice A5 (ts.length + 1) c5)
      rcases HRES.out with ⟨t, qj, ho, ht, hr6⟩ | ⟨ho, q', hr6⟩
      · obtain ⟨hij, hj⟩ := HIJ.out _ ho
        have HI := Lib.hid (RdI.step hgl hlz2 HFL.out hq0 HUU.out ho hij hj HZR.out HG.out HKR.out HV.out HGG.out HRw.out HK6.out ht hr6 HG3.out HR3.out HAT3.out)
        have hr9 := hrr _ _ hr6
        obtain ⟨d0, d1, d2, d3, _, _⟩ := hr9.four
        obtain ⟨w9, hw9⟩ : ∃ x, w3.setCell ⟨G8, 3, none⟩ (.slice A5 (ts.length + 1) c5) = x := ⟨_, rfl⟩
        rw [hw9] at HI d0 d1 d2 d3 ⊢
        clear hw9 hz9 hg9 hk9 hrr hr9 ht hr6 ho hij hj x0 x1 x2 x3 y0 y1 y2 y3 hS6 run3 HKP HR3 HG3 HAT3 HRES
        go_wp2_with fail
        exact ⟨⟨i + 1, by omega, by go_num, HI.out⟩, by simp [intOf]; omega⟩
      · have hr9 := hrr _ _ hr6
        have hno := HRS.out
        unfold partsR at hno
        rw [rdL_stop _ HUU.out HFL.out ho] at hno
        simp only at hno
        subst hno
        obtain ⟨d0, d1, d2, d3, _, _⟩ := hr9.four
        obtain ⟨z0, z1, z2, z3, t0, t1, t2, t3⟩ := hz9.four
        obtain ⟨o0, o1, o2, o3, _, _, _, _⟩ := hg9.four
        obtain ⟨w9, hw9⟩ : ∃ x, w3.setCell ⟨G8, 3, none⟩ (.slice A5 (ts.length + 1) c5) = x := ⟨_, rfl⟩
        rw [hw9] at hz9 hk9 hr9 d0 d1 d2 d3 z0 z1 z2 z3 t0 t1 t2 t3 o0 o1 o2 o3 ⊢
        have HZ9 := Lib.hid hz9; have HK9 := Lib.hid hk9; have HR9 := Lib.hid hr9
        clear hw9 hz9 hg9 hk9 hrr hr9 hr6 ho x0 x1 x2 x3 y0 y1 y2 y3 hS6 run3 HKP HR3 HG3 HAT3 HRES
        go_wp2_with fail
        obtain ⟨r0, r1, r2, r3, _, _, _, _⟩ := (put4_blk HZ9.out (.int .i64 5) (.int .i64 (a : Int)) (.string ⟨#[]⟩) (.slice A5 (ts.length + 1) c5)).four
        unfold put4 at r0 r1 r2 r3
        refine bodyPost_ret (v := .agg #[.int .i64 5, .int .i64 (a : Int), .string ⟨#[]⟩, .slice A5 (ts.length + 1) c5]) (by simp [results, Try.results41, go_sem, r0, r1, r2, r3]) rfl ?_
        exact rd_bad2 HK9.out HR9.out hgl
    · obtain rfl : i = b := by omega
      rw [List.take_of_length_le (by omega)] at hfl
      have hyes := HRS.out
      unfold partsR at hyes
      rw [hfl] at hyes
      simp only at hyes
      subst hyes
      have HD := Lib.hid (RdI.done (k := 5) (n := (a : Int)) hgl hlz2 (by decide) hwn hr hrow hk)
      obtain ⟨z0, z1, z2, z3, t0, t1, t2, t3⟩ := hz.four
      obtain ⟨o0, o1, o2, o3, _, _, _, _⟩ := hg.four
      obtain ⟨d0, d1, d2, d3, _, _⟩ := hr.four
      clear hfl hr hz hg hrow hk hll
      go_wp2_with fail
      obtain ⟨r0, r1, r2, r3, _, _, _, _⟩ := (put4_blk HZR.out (.int .i64 5) (.int .i64 (a : Int)) (.string ⟨#[]⟩) (.slice A3 ts.length c3)).four
      unfold put4 at r0 r1 r2 r3
      exact bodyPost_ret (v := .agg #[.int .i64 5, .int .i64 (a : Int), .string ⟨#[]⟩, .slice A3 ts.length c3]) (by simp [results, Try.results41, go_sem, r0, r1, r2, r3]) rfl HD.out
theorem rdT_succ (A : List ByteArray) (l : List Int) (fuel : Nat) (w : Int) (p : Nat) : rdT A l (fuel + 1) w p = if unE w ≠ 0 then none
    else if leafK (unK w) then some (.mk (unK w) (unN w) ⟨#[]⟩ [], p)
    else if unK w = 2 then (match A[(unN w).toNat]? with
      | some s => some (.mk 2 0 s [], p)
      | none => none)
    else if boxK (unK w) then (if unN w = (p : Int) then (match hdR l (unK w) p with
      | none => none
      | some h => if h.2.2 + h.2.1 ≤ l.length then partsR (rdT A l fuel) (unK w) h.1 ((l.drop h.2.2).take h.2.1) (h.2.2 + h.2.1) else none) else none)
    else none := by
  rw [rdT]
  rfl
theorem hdR_9 (l : List Int) (q : Nat) : hdR l 9 q = some (0, 2, q) := by unfold hdR; rw [if_pos rfl]
theorem hdR_75 {l : List Int} {k : Int} {q : Nat} {h : Int × Nat × Nat} (hk : k = 7 ∨ k = 5) (e : hdR l k q = some h) :
    ∃ x, l[q]? = some x ∧ unE x = 0 ∧ unK x = (if k = 7 then 10 else 11) ∧ h = (if k = 7 then (0, (unN x).toNat, q + 1) else (unN x / 128, (unN x % 128).toNat, q + 1)) := by
  unfold hdR at e
  rw [if_neg (by omega)] at e
  cases hx : l[q]? with
  | none => rw [hx] at e; cases e
  | some x =>
    rw [hx] at e
    simp only at e
    by_cases h1 : unE x = 0 ∧ unK x = (if k = 7 then 10 else 11)
    · rw [if_pos h1] at e
      refine ⟨x, rfl, h1.1, h1.2, ?_⟩
      by_cases h7 : k = 7
      · rw [if_pos h7] at e ⊢; injection e with e; exact e.symm
      · rw [if_neg h7] at e ⊢; injection e with e; exact e.symm
    · rw [if_neg h1] at e; cases e
theorem term_any (gR : Nat) (A : Option Addr) (l : List Int) (c g : Nat) (F : Nat → Prop) (Ts : List ByteArray) (hU : ∀ x ∈ l, U64 x) (hlc : l.length ≤ c) (hA : A = none → c = 0) (hl6 : l.length ≤ 65536) (hA64 : ∀ s ∈ Ts, s.size ≤ 64) :
    ∀ (fuel : Nat) (x : Int), U64 x → ∀ q : Nat, q ≤ l.length → l.length < q + fuel → ∀ w, REnv w gR g F Ts A l → Rdr w gR (.pointer (some ⟨g, 0, none⟩)) A l.length c (q : Int) false →
      Calls Try.prog 41 #[.pointer (some ⟨gR, 0, none⟩), .int .u64 x] w (RdPost w gR (.pointer (some ⟨g, 0, none⟩)) A l c (rdT Ts l fuel x q)) := by
  intro fuel
  induction fuel with
  | zero => intro x hx q hq hf; omega
  | succ fuel IH =>
    intro x hx q hq hf w henv hr
    rw [rdT_succ]
    by_cases hE : unE x = 0
    · rw [if_neg (fun h => h hE)]
      obtain ⟨_, _, n1, n2, n3, k1, k2⟩ := un_facts hE
      by_cases hlf : leafK (unK x)
      · rw [if_pos hlf]
        exact term_leaf gR _ A l c q x _ _ hx rfl rfl hE hlf w hr
      rw [if_neg hlf]
      by_cases h2 : unK x = 2
      · rw [if_pos h2]
        rw [h2] at n1
        have e1 : low 2 = 0 := rfl
        rw [e1] at n1
        obtain ⟨m, hm⟩ : ∃ m : Nat, unN x = (m : Int) := ⟨(unN x).toNat, by omega⟩
        have hm' : (unN x).toNat = m := by omega
        rw [hm']
        cases hT : Ts[m]? with
        | some s => exact term_atom gR _ A l c q x _ _ _ hx rfl rfl rfl m hm s g F Ts rfl hE h2 hT (hA64 s (List.mem_of_getElem? hT)) w henv hr
        | none => exact term_noatom gR _ A l c q x _ _ _ hx rfl rfl rfl m hm ⟨#[]⟩ g F Ts rfl hE h2 (List.getElem?_eq_none_iff.1 hT) w henv hr
      rw [if_neg h2]
      by_cases hbx : boxK (unK x)
      · rw [if_pos hbx]
        by_cases hnq : unN x = (q : Int)
        · rw [if_pos hnq]
          rcases hbx with h7 | h5 | h9
          · rw [h7]
            cases hh : hdR l 7 q with
            | none => exact box7_no gR _ A l c q x hx h7 hnq hE hq hl6 hU hlc hA g F Ts (fun h e => by rw [hh] at e; cases e) w henv hr
            | some h =>
              simp only
              by_cases hle : h.2.2 + h.2.1 ≤ l.length
              · rw [if_pos hle]
                obtain ⟨y, hy, hyE, hyK, he⟩ := hdR_75 (.inl rfl) hh
                rw [if_pos rfl] at hyK he
                subst he
                obtain ⟨_, _, m1, _, _, _, _⟩ := un_facts hyE
                rw [hyK] at m1
                have e1 : low 10 = 0 := rfl
                rw [e1] at m1
                exact box7_yes gR _ A l c q x hx h7 hnq hE hq hl6 hU hlc hA g F Ts hA64 fuel hf IH y hy hyE hyK (unN y).toNat (by omega) _ rfl hle w henv hr
              · rw [if_neg hle]
                exact box7_no gR _ A l c q x hx h7 hnq hE hq hl6 hU hlc hA g F Ts (fun h' e => by rw [hh] at e; injection e with e; subst e; omega) w henv hr
          · rw [h5]
            cases hh : hdR l 5 q with
            | none => exact box5_no gR _ A l c q x hx h5 hnq hE hq hl6 hU hlc hA g F Ts (fun h e => by rw [hh] at e; cases e) w henv hr
            | some h =>
              simp only
              by_cases hle : h.2.2 + h.2.1 ≤ l.length
              · rw [if_pos hle]
                obtain ⟨y, hy, hyE, hyK, he⟩ := hdR_75 (.inr rfl) hh
                rw [if_neg (by decide)] at hyK he
                subst he
                obtain ⟨_, _, m1, _, _, _, _⟩ := un_facts hyE
                rw [hyK] at m1
                have e1 : low 11 = 0 := rfl
                rw [e1] at m1
                have ea : unN y / 128 = ((unN y / 128).toNat : Int) := by omega
                have eb : unN y % 128 = ((unN y % 128).toNat : Int) := by omega
                have en : unN y = ((unN y).toNat : Int) := by omega
                refine box5_yes gR _ A l c q x hx h5 hnq hE hq hl6 hU hlc hA g F Ts hA64 fuel hf IH y hy hyE hyK (unN y).toNat en (unN y / 128).toNat (unN y % 128).toNat (by rw [← en]; exact ea) (by rw [← en]; exact eb) _ ?_ hle w henv hr
                rw [← ea]
              · rw [if_neg hle]
                exact box5_no gR _ A l c q x hx h5 hnq hE hq hl6 hU hlc hA g F Ts (fun h' e => by rw [hh] at e; injection e with e; subst e; omega) w henv hr
          · rw [h9, hdR_9]
            simp only
            by_cases hle : q + 2 ≤ l.length
            · rw [if_pos hle]
              exact box9_yes gR _ A l c q x hx h9 hnq hE hq hl6 hU hlc hA g F Ts hA64 fuel hf IH _ rfl hle w henv hr
            · rw [if_neg hle]
              exact box9_no gR _ A l c q x hx h9 hnq hE hq hl6 (by omega) w hr
        · rw [if_neg hnq]
          exact term_bad3 gR _ A l c q x _ _ _ hx rfl rfl rfl hE (by rcases hbx with h | h | h <;> omega) hnq w hr
      · rw [if_neg hbx]
        exact term_bad2 gR _ A l c q x _ _ _ hx rfl rfl rfl hE (by unfold leafK at hlf; unfold boxK at hbx; omega) w hr
    · rw [if_pos hE]
      exact term_bad1 gR _ A l c q x _ _ _ hx rfl rfl rfl hE w hr
/-- What Read answers. -/
def ReadPost (w : World) (Ts : List ByteArray) (l : List Int) (e : Ending) (w' : World) : Prop :=
  Below w.heap.size w w' ∧ ((∃ t v, rdF Ts l = some t ∧ l.length ≤ 65536 ∧ rdE Ts l = 0 ∧ e = .returned (.tuple #[v, .int .i64 0]) ∧ TAt w' (Fr w w') t v) ∨ ((rdE Ts l = 3 ∨ rdE Ts l = 4) ∧ e = .returned (.tuple #[.agg #[.int .i64 0, .int .i64 0, .string ⟨#[]⟩, .slice none 0 0], .int .i64 (rdE Ts l)])))
theorem rdE_no {Ts : List ByteArray} {l : List Int} (h6 : l.length ≤ 65536) (h : rdF Ts l = none) : rdE Ts l = 4 := by
  unfold rdE; rw [if_neg (by omega), h]; rfl
theorem ret2_vn {v : Value} {a b : Int} (h' : a = b) : Ending.returned (.tuple #[v, .int .i64 a]) = .returned (.tuple #[v, .int .i64 b]) := by rw [h']
/-- An unsuccessful end. -/
theorem read_bad {w w5 : World} {Ts : List ByteArray} {l : List Int} {x : Int} (hb : Below w.heap.size w w5) (hx : rdE Ts l = x) (h : x = 3 ∨ x = 4) :
    ReadPost w Ts l (.returned (.tuple #[.agg #[.int .i64 0, .int .i64 0, .string ⟨#[]⟩, .slice none 0 0], .int .i64 x])) (put4 w5 w.heap.size (.int .i64 0) (.int .i64 0) (.string ⟨#[]⟩) (.slice none 0 0)) :=
  ⟨put4_below hb (Nat.le_refl _) _ _ _ _, .inr ⟨by rw [hx]; exact h, by rw [hx]⟩⟩
/-- A successful end. -/
theorem read_good {w w2 w3 : World} {Ts : List ByteArray} {l : List Int} {t : Tm} {k m : Int} {s : ByteArray} {A1 : Option Addr} {n c : Nat} {o : Obj} (hb : Below w.heap.size w w3) (h2 : w.heap.size < w2.heap.size) (h6 : l.length ≤ 65536) (hF : rdF Ts l = some t) (hE : rdE Ts l = 0)
    (ht : TAt w3 (Fr w2 w3) t (.agg #[.int .i64 k, .int .i64 m, .string s, .slice A1 n c])) :
    ReadPost w Ts l (.returned (.tuple #[.agg #[.int .i64 k, .int .i64 m, .string s, .slice A1 n c], .int .i64 0])) (put4 (w3.alloc o) w.heap.size (.int .i64 k) (.int .i64 m) (.string s) (.slice A1 n c)) :=
  ⟨put4_below (ballocs hb o) (Nat.le_refl _) _ _ _ _, .inl ⟨t, _, hF, h6, hE, rfl, (ht.keep (w' := put4 (w3.alloc o) w.heap.size (.int .i64 k) (.int .i64 m) (.string s) (.slice A1 n c)) (fun p hp => (put4_cell _ _ _ _ _ _ p (fun e => by have := hp.1; omega)).trans (World.cell?_alloc_lt w3 o p hp.2))).mono (fun b hb => ⟨by have := hb.1; omega, by rw [put4_size]; simp only [World.size_alloc]; have := hb.2; omega⟩)⟩⟩
set_option maxRecDepth 100000 in
set_option maxHeartbeats 8000000 in
theorem read_any (g : Nat) (A : Option Addr) (l : List Int) (c : Nat) (F : Nat → Prop) (Ts : List ByteArray) (hU : ∀ x ∈ l, U64 x) (hlc : l.length ≤ c) (hA : A = none → c = 0) (hA64 : ∀ s ∈ Ts, s.size ≤ 64) (w : World) (hT : Tab w F g Ts) (hl : Reads w w.heap.size 1 A l.length (u64s l)) :
    Calls Try.prog 10 #[.pointer (some ⟨g, 0, none⟩), .slice A l.length c] w (ReadPost w Ts l) := by
  obtain ⟨w0, hw0⟩ : ∃ x, w.alloc (.cells #[.int .i64 0, .int .i64 0, .string ⟨#[]⟩, .slice none 0 0] 24) = x := ⟨_, rfl⟩
  have hb0 : Below w.heap.size w w0 := by rw [← hw0]; exact ballocs (Below.refl _ _) _
  have hz0 : Blk w0 w.heap.size 24 tz := by rw [← hw0]; exact Blk.new _ _ _
  have hs0 : w0.heap.size = w.heap.size + 1 := by rw [← hw0]; simp
  have hT0 : Tab w0 F g Ts := hT.keep (G := fun _ => False) (Keep.new hb0) (fun _ _ h => h)
  have hl0 : Reads w0 w0.heap.size 1 A l.length (u64s l) := (hl.below hb0).more hb0.size
  have hFl : ∀ b, F b → b < w.heap.size := Tab.lt_ hT
  have HNO := Lib.hid (none_tab g Ts w0 F hT0)
  have HT0 := Lib.hid hT0; have HL0 := Lib.hid hl0; have HZ0 := Lib.hid hz0; have HB0 := Lib.hid hb0; have HFL := Lib.hid hFl
  obtain ⟨z0, z1, z2, z3, y0, y1, y2, y3⟩ := hz0.four
  have HW0 := Lib.hid hw0; have HS0 := Lib.hid hs0
  clear hT hl hT0 hl0 hz0 hb0 hFl hw0 hs0
  by_cases h6 : l.length ≤ 65536
  · have b6 : decide ((65536 : Int) < (l.length : Int)) = false := decide_eq_false (by omega)
    obtain ⟨gR, hgR⟩ : ∃ gR, w0.heap.size = gR := ⟨_, rfl⟩
    obtain ⟨w1, hw1⟩ : ∃ x, w0.alloc (.cells #[.pointer (some ⟨g, 0, none⟩), .slice A l.length c, .int .i64 0, .bool false] 77) = x := ⟨_, rfl⟩
    have hb1 : Below w0.heap.size w0 w1 := by rw [← hw1]; exact ballocs (Below.refl _ _) _
    have hr1 : Rdr w1 gR (.pointer (some ⟨g, 0, none⟩)) A l.length c ((0 : Nat) : Int) false := by rw [← hw1, ← hgR]; exact Blk.new _ _ _
    have hgl1 : gR < w1.heap.size := Blk.lt hr1
    have hgw : w.heap.size < gR := by have := HS0.out; omega
    have hen : REnv w1 gR g F Ts A l := ⟨HT0.out.keep (G := fun _ => False) (Keep.new hb1) (fun _ _ h => h), fun h => by have := HFL.out _ h; omega, by rw [← hgR]; exact HL0.out.below hb1, hgl1⟩
    have HR1 := Lib.hid hr1; have HEN := Lib.hid hen
    have HZ1 := Lib.hid (HZ0.out.below hb1 HZ0.out.lt)
    have HB1 := Lib.hid (fbelow HB0.out hb1)
    have HW1 := Lib.hid hw1; have HGR := Lib.hid hgR
    have HBK := Lib.hid (show ∀ wx, Keep (fun b => b = gR) w1 wx → Below w.heap.size w wx from fun wx hk => Keep.below HB1.out hk (by have := HB1.out.size; omega) (fun i hi (e : i = gR) => by omega))
    clear hr1 hen hw1 hgR hb1
    by_cases hnil : l.length = 0
    · have hE : rdE Ts l = 4 := rdE_no h6 (by rw [List.eq_nil_of_length_eq_zero hnil]; rfl)
      have HTK := Lib.hid (take_no gR (.pointer (some ⟨g, 0, none⟩)) A l.length c 0 1 w1 HR1.out h6 (Nat.zero_le _) (by decide) (by omega))
      have HE := Lib.hid hE
      clear hE hnil
      go_enter Try.func10, Try.ntmps10
      go_wp2_with fail
      rw [HW0.out]
      refine HNO.out.mono ?_
      rintro e w' ⟨rfl, rfl⟩
      go_wp2_with fail
      rw [HW1.out, HGR.out]
      refine HTK.out.mono ?_
      rintro e w2 ⟨rfl, hr2, hk2⟩
      obtain ⟨d0, d1, d2, d3, f2, f3⟩ := hr2.four
      have hz2 := HZ1.out.keep hk2 (fun (e : w.heap.size = gR) => by omega)
      obtain ⟨x0, x1, x2, x3, v0, v1, v2, v3⟩ := hz2.four
      have HZ2 := Lib.hid hz2; have HB2 := Lib.hid (HBK.out _ hk2)
      clear hr2 hk2 hz2
      go_wp2_with fail
      obtain ⟨r0, r1, r2, r3, _, _, _, _⟩ := (put4_blk HZ2.out (.int .i64 0) (.int .i64 0) (.string ⟨#[]⟩) (.slice none 0 0)).four
      unfold put4 at r0 r1 r2 r3
      exact bodyPost_ret (v := .tuple #[.agg #[.int .i64 0, .int .i64 0, .string ⟨#[]⟩, .slice none 0 0], .int .i64 4]) (by simp [results, Try.results10, go_sem, r0, r1, r2, r3]) rfl (read_bad HB2.out HE.out (.inr rfl))
    · obtain ⟨x, hx⟩ : ∃ x, l[0]? = some x := ⟨_, List.getElem?_eq_getElem (by omega)⟩
      have hUx : U64 x := hU x (List.mem_of_getElem? hx)
      have HTK := Lib.hid (take_ok gR (.pointer (some ⟨g, 0, none⟩)) A l c 0 1 w1 HR1.out HEN.out.2.2.1 hlc hA h6 (by omega))
      have HX := Lib.hid hx
      have HTM := Lib.hid (fun w (he : REnv w gR g F Ts A l) (hr : Rdr w gR (.pointer (some ⟨g, 0, none⟩)) A l.length c ((1 : Nat) : Int) false) => term_any gR A l c g F Ts hU hlc hA h6 hA64 (l.length + 1) x hUx 1 (by omega) (by omega) w he hr)
      clear hnil hx hU hlc hA hA64
      go_enter Try.func10, Try.ntmps10
      go_wp2_with fail
      rw [HW0.out]
      refine HNO.out.mono ?_
      rintro e w' ⟨rfl, rfl⟩
      go_wp2_with fail
      rw [HW1.out, HGR.out]
      refine HTK.out.mono ?_
      rintro e w2 ⟨A', c', rfl, hr2, hk2, hw2⟩
      obtain ⟨d0, d1, d2, d3, f2, f3⟩ := hr2.four
      have hz2 := HZ1.out.keep hk2 (fun (e : w.heap.size = gR) => by omega)
      have hen2 := HEN.out.keep hk2
      obtain ⟨ad, u, rfl, hab, hu, hcell⟩ := hw2.at_ (k := 0) (by omega)
      obtain rfl : u = .int .u64 x := took_one HX.out hu
      have hcell0 : w2.cell? ad = some (.int .u64 x) := by simpa [Addr.add] using hcell
      have HZ2 := Lib.hid hz2; have HR2 := Lib.hid hr2; have HEN2 := Lib.hid hen2; have HK2 := Lib.hid hk2
      clear hr2 hk2 hz2 hen2 hw2 hu hcell
      go_wp2_with fail
      rename_i K1 hK1 K2 hK2
      have HKK := Lib.hid hK1
      clear hK1
      refine (HTM.out _ HEN2.out HR2.out).mono ?_
      intro e w3 hpost
      obtain ⟨k6, m6, s6, A6, l6, c6, rfl, hk3, hres⟩ := hpost.form
      have hk23 := HK2.out.trans hk3 (fun _ _ h => h)
      have hz3 := HZ2.out.keep hk3 (fun (e : w.heap.size = gR) => by omega)
      have HZ3 := Lib.hid hz3
      have HB3 := Lib.hid (HBK.out _ hk23)
      have HRES := Lib.hid hres
      have HSZ := Lib.hid (show w.heap.size < w2.heap.size from HZ2.out.lt)
      have HSZ3 := Lib.hid (show gR < w3.heap.size from by have := hk23.size; omega)
      clear hpost hk3 hk23 hz3 hres d0 d1 d2 d3 f2 f3 hcell0
      go_wp2_with fail
      refine HKK.out _ _ ?_
      have ht4 := Blk.new w3 24 #[.int .i64 k6, .int .i64 m6, .string s6, .slice A6 l6 c6]
      have hz4 := HZ3.out.alloc (.cells #[.int .i64 k6, .int .i64 m6, .string s6, .slice A6 l6 c6] 24)
      have HR4 := Lib.hid (fun q b (h : Rdr w3 gR (.pointer (some ⟨g, 0, none⟩)) A l.length c q b) => (show Rdr (w3.alloc (.cells #[.int .i64 k6, .int .i64 m6, .string s6, .slice A6 l6 c6] 24)) gR (.pointer (some ⟨g, 0, none⟩)) A l.length c q b from Blk.alloc h _))
      have HB4 := Lib.hid (ballocs HB3.out (.cells #[.int .i64 k6, .int .i64 m6, .string s6, .slice A6 l6 c6] 24))
      have HG := Lib.hid (fun t (hF : rdF Ts l = some t) (hE : rdE Ts l = 0) (ht : TAt w3 (Fr w2 w3) t (.agg #[.int .i64 k6, .int .i64 m6, .string s6, .slice A6 l6 c6])) => read_good (o := .cells #[.int .i64 k6, .int .i64 m6, .string s6, .slice A6 l6 c6] 24) HB3.out HSZ.out h6 hF hE ht)
      obtain ⟨w4, hw4⟩ : ∃ x, w3.alloc (.cells #[.int .i64 k6, .int .i64 m6, .string s6, .slice A6 l6 c6] 24) = x := ⟨_, rfl⟩
      rw [hw4] at ht4 hz4 HR4 HB4 HG ⊢
      clear hw4
      obtain ⟨x0, x1, x2, x3, v0, v1, v2, v3⟩ := hz4.four
      obtain ⟨t0, t1, t2, t3, _, _, _, _⟩ := ht4.four
      have HZ4 := Lib.hid hz4
      obtain ⟨g8, hg8⟩ : ∃ g8, w3.heap.size = g8 := ⟨_, rfl⟩
      rw [hg8] at t0 t1 t2 t3 ht4 ⊢
      clear hz4 ht4 hg8
      rcases HRES.out with ⟨t, q, ho, ht, hr3⟩ | ⟨ho, q', hr3⟩
      · obtain ⟨d0', d1', d2', d3', _, _⟩ := (HR4.out _ _ hr3).four
        obtain ⟨n0, hn0⟩ : ∃ n0, l.length = n0 := ⟨_, rfl⟩
        by_cases hq : q = n0
        · have hF : rdF Ts l = some t := by unfold rdF; rw [HX.out]; simp only [ho]; rw [if_pos (by omega)]
          have hE : rdE Ts l = 0 := by unfold rdE; rw [if_neg (by omega), hF]; rfl
          have HGG := Lib.hid (HG.out t hF hE ht)
          have hne : ((q : Int) != (n0 : Int)) = false := by simp [hq]
          have hqe : (q : Int) = (n0 : Int) := by omega
          rw [hn0] at HW1 d1' ⊢
          clear hr3 ho hF hE ht hq HG HRES
          go_wp2_with fail
          obtain ⟨r0, r1, r2, r3, _, _, _, _⟩ := (put4_blk HZ4.out (.int .i64 k6) (.int .i64 m6) (.string s6) (.slice A6 l6 c6)).four
          unfold put4 at r0 r1 r2 r3
          exact bodyPost_ret (v := .tuple #[.agg #[.int .i64 k6, .int .i64 m6, .string s6, .slice A6 l6 c6], .int .i64 0]) (by simp [results, Try.results10, go_sem, r0, r1, r2, r3]) rfl HGG.out
        · have hF : rdF Ts l = none := by unfold rdF; rw [HX.out]; simp only [ho]; rw [if_neg (by omega)]
          have HE := Lib.hid (rdE_no h6 hF)
          have hne : ((q : Int) != (n0 : Int)) = true := by simp; omega
          have hqe : ¬ ((q : Int) = (n0 : Int)) := by omega
          rw [hn0] at HW1 d1' ⊢
          clear hr3 ho hF ht hq HG HRES
          go_wp2_with fail
          obtain ⟨r0, r1, r2, r3, _, _, _, _⟩ := (put4_blk HZ4.out (.int .i64 0) (.int .i64 0) (.string ⟨#[]⟩) (.slice none 0 0)).four
          unfold put4 at r0 r1 r2 r3
          exact bodyPost_ret (v := .tuple #[.agg #[.int .i64 0, .int .i64 0, .string ⟨#[]⟩, .slice none 0 0], .int .i64 4]) (by simp [results, Try.results10, go_sem, r0, r1, r2, r3]) rfl (read_bad HB4.out HE.out (.inr rfl))
      · have HE := Lib.hid (rdE_no h6 (show rdF Ts l = none from by unfold rdF; rw [HX.out]; simp only [ho]))
        obtain ⟨d0', d1', d2', d3', _, _⟩ := (HR4.out _ _ hr3).four
        clear hr3 ho HG HRES
        go_wp2_with fail
        obtain ⟨r0, r1, r2, r3, _, _, _, _⟩ := (put4_blk HZ4.out (.int .i64 0) (.int .i64 0) (.string ⟨#[]⟩) (.slice none 0 0)).four
        unfold put4 at r0 r1 r2 r3
        exact bodyPost_ret (v := .tuple #[.agg #[.int .i64 0, .int .i64 0, .string ⟨#[]⟩, .slice none 0 0], .int .i64 4]) (by simp [results, Try.results10, go_sem, r0, r1, r2, r3]) rfl (read_bad HB4.out HE.out (.inr rfl))
  · have HE := Lib.hid (show rdE Ts l = 3 from by unfold rdE; rw [if_pos (by omega)])
    have b6 : decide ((65536 : Int) < (l.length : Int)) = true := decide_eq_true (by omega)
    clear h6
    go_enter Try.func10, Try.ntmps10
    go_wp2_with fail
    rw [HW0.out]
    refine HNO.out.mono ?_
    rintro e w' ⟨rfl, rfl⟩
    go_wp2_with fail
    obtain ⟨r0, r1, r2, r3, _, _, _, _⟩ := (put4_blk HZ0.out (.int .i64 0) (.int .i64 0) (.string ⟨#[]⟩) (.slice none 0 0)).four
    unfold put4 at r0 r1 r2 r3
    exact bodyPost_ret (v := .tuple #[.agg #[.int .i64 0, .int .i64 0, .string ⟨#[]⟩, .slice none 0 0], .int .i64 3]) (by simp [results, Try.results10, go_sem, r0, r1, r2, r3]) rfl (read_bad HB0.out HE.out (.inl rfl))
end Go.Proofs.Ytfcialleekfjmaa.Fl
