/- The document's reader's term. (Printed by mk_rterm.py.) -/
import Derived.Test.YtfcialleekfjmaaFlRTake
namespace Go.Proofs.Ytfcialleekfjmaa.Fl
open Go.RowKit K At Wd
set_option linter.unusedVariables false
set_option linter.unusedSimpArgs false

theorem boxd_eq {x : Int} (h : unE x = 0) : boxd x = decide (boxK (unK x)) := by
  obtain ⟨h1, _⟩ := un_facts h
  unfold boxd boxK
  rw [h1]
  congr 1
  rw [eq_iff_iff]
  omega
theorem rrd_bad {w w2 : World} {gR : Nat} {p : Value} {A : Option Addr} {l : List Int} {c : Nat} {q : Int} {b : Bool} {k n : Int} {s : ByteArray} (hk : Keep (fun b => b = gR) w w2) (hr : RRdr w2 gR p A l.length c q b) (hg : gR < w.heap.size) (A1 : Option Addr) (m1 c1 : Nat) :
    RRdPost w gR p A l c none (.returned (.agg #[.int .i64 k, .int .i64 n, .string s, .slice A1 m1 c1])) (put4 (w2.setCell ⟨gR, 3, none⟩ (.bool true)) w.heap.size (.int .i64 k) (.int .i64 n) (.string s) (.slice A1 m1 c1)) := by
  have hne : gR ≠ w.heap.size := by omega
  exact ⟨k, n, s, A1, m1, c1, rfl, put4_keep (hk.setCell (p := ⟨gR, 3, none⟩) (.inl rfl) _) (.inr (Nat.le_refl _)) _ _ _ _, .inr ⟨rfl, q, (((Blk.far (hr.bad true) hne _).far hne _).far hne _).far hne _⟩⟩
theorem rrd_bad2 {w w2 : World} {gR : Nat} {p : Value} {A : Option Addr} {l : List Int} {c : Nat} {q : Int} {k n : Int} {s : ByteArray} (hk : Keep (fun b => b = gR) w w2) (hr : RRdr w2 gR p A l.length c q true) (hg : gR < w.heap.size) (A1 : Option Addr) (m1 c1 : Nat) :
    RRdPost w gR p A l c none (.returned (.agg #[.int .i64 k, .int .i64 n, .string s, .slice A1 m1 c1])) (put4 w2 w.heap.size (.int .i64 k) (.int .i64 n) (.string s) (.slice A1 m1 c1)) := by
  have hne : gR ≠ w.heap.size := by omega
  exact ⟨k, n, s, A1, m1, c1, rfl, put4_keep hk (.inr (Nat.le_refl _)) _ _ _ _, .inr ⟨rfl, q, (((Blk.far hr hne _).far hne _).far hne _).far hne _⟩⟩
theorem rrd_leaf {w w2 : World} {gR : Nat} {p : Value} {A : Option Addr} {l : List Int} {c q : Nat} {k n : Int} {s : ByteArray} (hk : Keep (fun b => b = gR) w w2) (hr : RRdr w2 gR p A l.length c (q : Int) false) (hg : gR < w.heap.size) (hk1 : (Lit.int .i64 k).wf = true) (hn1 : (Lit.int .i64 n).wf = true) (hs : s.size ≤ maxLen) :
    RRdPost w gR p A l c (some (.mk k n s [], q)) (.returned (.agg #[.int .i64 k, .int .i64 n, .string s, .slice none 0 0])) (put4 w2 w.heap.size (.int .i64 k) (.int .i64 n) (.string s) (.slice none 0 0)) := by
  have hne : gR ≠ w.heap.size := by omega
  exact ⟨k, n, s, none, 0, 0, rfl, put4_keep hk (.inr (Nat.le_refl _)) _ _ _ _, .inl ⟨_, q, rfl, TAt.of (t := .mk k n s []) (A := none) (c := 0) ⟨hk1, hn1, hs, Nat.le_refl _, Nat.zero_le _, fun _ => rfl⟩ (TsAt.nil _ _ _), (((Blk.far hr hne _).far hne _).far hne _).far hne _⟩⟩
theorem RRdPost.alloc {w w2 : World} {gR : Nat} {p : Value} {A : Option Addr} {l : List Int} {c : Nat} {r : Option (Tm × Nat)} {e : Ending} (h : RRdPost w gR p A l c r e w2) (o : Obj) : RRdPost w gR p A l c r e (w2.alloc o) := by
  obtain ⟨k, n, s, A1, m, c1, rfl, hk, h⟩ := h
  refine ⟨k, n, s, A1, m, c1, rfl, hk.alloc o, ?_⟩
  rcases h with ⟨t, q, rfl, ht, hr⟩ | ⟨rfl, q', hr⟩
  · exact .inl ⟨t, q, rfl, (ht.alloc (fun b hb => hb.2) o).mono (fun b hb => ⟨hb.1, by rw [World.size_alloc]; have := hb.2; omega⟩), Blk.alloc hr o⟩
  · exact .inr ⟨rfl, q', Blk.alloc hr o⟩
def ptm (k n : Int) (r : Option (List Tm × Nat)) : Option (Tm × Nat) := match r with
  | none => none
  | some y => some (.mk k n ⟨#[]⟩ y.1, y.2)
/-- The parts are put, and the term is told. -/
theorem rrd_parts {w w4 w5 : World} {gR G9 : Nat} {p : Value} {A : Option Addr} {l : List Int} {c : Nat} {k n : Int} {r : Option (List Tm × Nat)} {r' : Option (Tm × Nat)} {A1 : Option Addr} {m1 c1 : Nat} (hg : gR < w.heap.size) (h9 : w.heap.size < G9) (h94 : G9 < w4.heap.size) (hk4 : Keep (fun b => b = gR) w w4) (hk1 : (Lit.int .i64 k).wf = true) (hn1 : (Lit.int .i64 n).wf = true)
    (hp : RPtPost w4 gR p A l c r (.returned (.slice A1 m1 c1)) w5) (hr' : r' = ptm k n r) :
    RRdPost w gR p A l c r' (.returned (.agg #[.int .i64 k, .int .i64 n, .string ⟨#[]⟩, .slice A1 m1 c1])) (put4 (w5.setCell ⟨G9, 3, none⟩ (.slice A1 m1 c1)) w.heap.size (.int .i64 k) (.int .i64 n) (.string ⟨#[]⟩) (.slice A1 m1 c1)) := by
  obtain ⟨A2, m2, c2, he, hk5, hres⟩ := hp
  injection he with he
  injection he with e1 e2 e3
  subst e1 e2 e3
  have hne : gR ≠ w.heap.size := by omega
  have hne9 : gR ≠ G9 := by omega
  have hk45 := hk4.trans hk5 (fun _ _ h => h)
  have hkx : Keep (fun b => b = gR) w (w5.setCell ⟨G9, 3, none⟩ (.slice A1 m1 c1)) := hk45.setCell (p := ⟨G9, 3, none⟩) (.inr (by show w.heap.size ≤ G9; omega)) _
  refine ⟨k, n, ⟨#[]⟩, A1, m1, c1, rfl, put4_keep hkx (.inr (Nat.le_refl _)) _ _ _ _, ?_⟩
  have h45 := hk5.size
  have h04 := hk4.size
  rcases hres with ⟨ts, q, rfl, hrow, hr⟩ | ⟨rfl, q', hr⟩
  · have hks : Keep (fun b => b < w4.heap.size) w5 (put4 (w5.setCell ⟨G9, 3, none⟩ (.slice A1 m1 c1)) w.heap.size (.int .i64 k) (.int .i64 n) (.string ⟨#[]⟩) (.slice A1 m1 c1)) := put4_keep ((Keep.refl (fun b => b < w4.heap.size) w5).setCell (p := ⟨G9, 3, none⟩) (.inl h94) _) (.inl (by omega)) _ _ _ _
    have hrow2 := trow_keepF hrow hks (fun b h e => by omega) (fun b h e => by omega)
    obtain ⟨A', c', e, h1, h2, h3, hts⟩ := hrow2.slAt (F := Fr w (put4 (w5.setCell ⟨G9, 3, none⟩ (.slice A1 m1 c1)) w.heap.size (.int .i64 k) (.int .i64 n) (.string ⟨#[]⟩) (.slice A1 m1 c1))) (fun b h1 h2 => ⟨by omega, h1⟩) (fun b h1 h2 => ⟨by omega, h1⟩)
    injection e with e1 e2 e3
    subst e1 e2 e3
    exact .inl ⟨.mk k n ⟨#[]⟩ ts, q, hr', TAt.of (t := .mk k n ⟨#[]⟩ ts) ⟨hk1, hn1, by show (0 : Nat) ≤ _; exact Nat.zero_le _, h1, h2, h3⟩ hts, ((((Blk.far hr hne9 _).far hne _).far hne _).far hne _).far hne _⟩
  · exact .inr ⟨hr', q', ((((Blk.far hr hne9 _).far hne _).far hne _).far hne _).far hne _⟩
set_option maxRecDepth 100000 in
set_option maxHeartbeats 8000000 in
theorem rterm_bad1 (gR h : Nat) (A : Option Addr) (l : List Int) (c q : Nat) (x : Int) (hx : U64 x) (hE : unE x ≠ 0) (w : World) (hr : RRdr w gR (.pointer (some ⟨h, 0, none⟩)) A l.length c (q : Int) false) :
    Calls Try.prog 52 #[.pointer (some ⟨gR, 0, none⟩), .int .u64 x] w (RRdPost w gR (.pointer (some ⟨h, 0, none⟩)) A l c none) := by
  have HUN := Lib.hid (fun w => runpack_any x hx.1 hx.2 w)
  have HBO := Lib.hid (fun w => rboxed_any x hx.1 hx.2 w)
  have hE2 : (unE x != 0) = true := by simpa using hE
  obtain ⟨k, hk⟩ : ∃ k, unK x = k := ⟨_, rfl⟩
  obtain ⟨n, hn⟩ : ∃ n, unN x = n := ⟨_, rfl⟩
  obtain ⟨y, hy⟩ : ∃ y, unE x = y := ⟨_, rfl⟩
  obtain ⟨bx, hbx⟩ : ∃ bx, boxd x = bx := ⟨_, rfl⟩
  rw [hk, hn, hy] at HUN
  rw [hbx] at HBO
  rw [hy] at hE2
  have HR := Lib.hid hr
  have hgl : gR < w.heap.size := Blk.lt hr
  have hb0 := ballocs (Below.refl w.heap.size w) (.cells tz 24)
  have HZ := Lib.hid (Blk.new w 24 tz)
  have HR1 := Lib.hid (hr.below hb0)
  have HB0 := Lib.hid hb0
  clear hr hb0 hx hE hk hn hy hbx
  go_enter Try.func52, Try.ntmps52
  go_wp2_with fail
  obtain ⟨w1, hw1⟩ : ∃ x, w.alloc (.cells #[.int .i64 0, .int .i64 0, .string ⟨#[]⟩, .slice none 0 0] 24) = x := ⟨_, rfl⟩
  rw [hw1] at HZ HR1 HB0 ⊢
  clear hw1
  refine (HUN.out w1).mono ?_
  rintro e w2 ⟨rfl, hw2⟩
  obtain rfl : w1 = w2 := hw2.symm
  clear hw2
  go_wp2_with fail
  refine (HBO.out w1).mono ?_
  rintro e w2 ⟨rfl, hw2⟩
  obtain rfl : w1 = w2 := hw2.symm
  clear hw2
  obtain ⟨d0, d1, d2, d3, f2, f3⟩ := HR1.out.four
  obtain ⟨z0, z1, z2, z3, y0, y1, y2, y3⟩ := HZ.out.four
  have hlz : w.heap.size < w1.heap.size := HZ.out.lt
  have hgl1 : gR < w1.heap.size := Blk.lt HR1.out
  have hne : gR ≠ w.heap.size := by omega
  go_wp2_with fail
  obtain ⟨r0, r1, r2, r3, _, _, _, _⟩ := (put4_blk (HZ.out.far (p := ⟨gR, 3, none⟩) (by show w.heap.size ≠ gR; omega) (.bool true)) (.int .i64 0) (.int .i64 0) (.string ⟨#[]⟩) (.slice none 0 0)).four
  unfold put4 at r0 r1 r2 r3
  exact bodyPost_ret (v := .agg #[.int .i64 0, .int .i64 0, .string ⟨#[]⟩, .slice none 0 0]) (by simp [results, Try.results52, go_sem, r0, r1, r2, r3]) rfl (rrd_bad (Keep.new (F := fun b => b = gR) HB0.out) HR1.out hgl none 0 0)
set_option maxRecDepth 100000 in
set_option maxHeartbeats 8000000 in
theorem rterm_bad2 (gR h : Nat) (A : Option Addr) (l : List Int) (c q : Nat) (x : Int) (hx : U64 x) (hE : unE x = 0) (hk9 : unK x < 1 ∨ 9 < unK x) (w : World) (hr : RRdr w gR (.pointer (some ⟨h, 0, none⟩)) A l.length c (q : Int) false) :
    Calls Try.prog 52 #[.pointer (some ⟨gR, 0, none⟩), .int .u64 x] w (RRdPost w gR (.pointer (some ⟨h, 0, none⟩)) A l c none) := by
  have HUN := Lib.hid (fun w => runpack_any x hx.1 hx.2 w)
  have HBO := Lib.hid (fun w => rboxed_any x hx.1 hx.2 w)
  obtain ⟨k, hk⟩ : ∃ k, unK x = k := ⟨_, rfl⟩
  obtain ⟨n, hn⟩ : ∃ n, unN x = n := ⟨_, rfl⟩
  obtain ⟨bx, hbx⟩ : ∃ bx, boxd x = bx := ⟨_, rfl⟩
  rw [hk, hn, hE] at HUN
  rw [hbx] at HBO
  rw [hk] at hk9
  have hkk : (decide (k < 1) = true) ∨ (decide (k < 1) = false ∧ decide (9 < k) = true) := by
    rcases hk9 with h | h
    · exact .inl (decide_eq_true h)
    · exact .inr ⟨decide_eq_false (by omega), decide_eq_true h⟩
  have HR := Lib.hid hr
  have hgl : gR < w.heap.size := Blk.lt hr
  have hb0 := ballocs (Below.refl w.heap.size w) (.cells tz 24)
  have HZ := Lib.hid (Blk.new w 24 tz)
  have HR1 := Lib.hid (hr.below hb0)
  have HB0 := Lib.hid hb0
  clear hr hb0 hx hE hk hn hbx hk9
  go_enter Try.func52, Try.ntmps52
  go_wp2_with fail
  obtain ⟨w1, hw1⟩ : ∃ x, w.alloc (.cells #[.int .i64 0, .int .i64 0, .string ⟨#[]⟩, .slice none 0 0] 24) = x := ⟨_, rfl⟩
  rw [hw1] at HZ HR1 HB0 ⊢
  clear hw1
  refine (HUN.out w1).mono ?_
  rintro e w2 ⟨rfl, hw2⟩
  obtain rfl : w1 = w2 := hw2.symm
  clear hw2
  go_wp2_with fail
  refine (HBO.out w1).mono ?_
  rintro e w2 ⟨rfl, hw2⟩
  obtain rfl : w1 = w2 := hw2.symm
  clear hw2
  obtain ⟨d0, d1, d2, d3, f2, f3⟩ := HR1.out.four
  obtain ⟨z0, z1, z2, z3, y0, y1, y2, y3⟩ := HZ.out.four
  have hlz : w.heap.size < w1.heap.size := HZ.out.lt
  have hgl1 : gR < w1.heap.size := Blk.lt HR1.out
  have hne : gR ≠ w.heap.size := by omega
  rcases hkk with hkk | ⟨hkk, hkk2⟩
  · go_wp2_with fail
    obtain ⟨r0, r1, r2, r3, _, _, _, _⟩ := (put4_blk (HZ.out.far (p := ⟨gR, 3, none⟩) (by show w.heap.size ≠ gR; omega) (.bool true)) (.int .i64 0) (.int .i64 0) (.string ⟨#[]⟩) (.slice none 0 0)).four
    unfold put4 at r0 r1 r2 r3
    exact bodyPost_ret (v := .agg #[.int .i64 0, .int .i64 0, .string ⟨#[]⟩, .slice none 0 0]) (by simp [results, Try.results52, go_sem, r0, r1, r2, r3]) rfl (rrd_bad (Keep.new (F := fun b => b = gR) HB0.out) HR1.out hgl none 0 0)
  · go_wp2_with fail
    obtain ⟨r0, r1, r2, r3, _, _, _, _⟩ := (put4_blk (HZ.out.far (p := ⟨gR, 3, none⟩) (by show w.heap.size ≠ gR; omega) (.bool true)) (.int .i64 0) (.int .i64 0) (.string ⟨#[]⟩) (.slice none 0 0)).four
    unfold put4 at r0 r1 r2 r3
    exact bodyPost_ret (v := .agg #[.int .i64 0, .int .i64 0, .string ⟨#[]⟩, .slice none 0 0]) (by simp [results, Try.results52, go_sem, r0, r1, r2, r3]) rfl (rrd_bad (Keep.new (F := fun b => b = gR) HB0.out) HR1.out hgl none 0 0)
set_option maxRecDepth 100000 in
set_option maxHeartbeats 8000000 in
theorem rterm_bad3 (gR h : Nat) (A : Option Addr) (l : List Int) (c q : Nat) (x : Int) (hx : U64 x) (hE : unE x = 0) (hbk : boxK (unK x)) (hnq : unN x ≠ (q : Int)) (w : World) (hr : RRdr w gR (.pointer (some ⟨h, 0, none⟩)) A l.length c (q : Int) false) :
    Calls Try.prog 52 #[.pointer (some ⟨gR, 0, none⟩), .int .u64 x] w (RRdPost w gR (.pointer (some ⟨h, 0, none⟩)) A l c none) := by
  have HUN := Lib.hid (fun w => runpack_any x hx.1 hx.2 w)
  have HBO := Lib.hid (fun w => rboxed_any x hx.1 hx.2 w)
  have hbx : boxd x = true := by rw [boxd_eq hE]; exact decide_eq_true hbk
  obtain ⟨k, hk⟩ : ∃ k, unK x = k := ⟨_, rfl⟩
  obtain ⟨n, hn⟩ : ∃ n, unN x = n := ⟨_, rfl⟩
  rw [hk, hn, hE] at HUN
  rw [hbx] at HBO
  rw [hk] at hbk
  have hk1 : decide (k < 1) = false := decide_eq_false (by unfold boxK at hbk; omega)
  have hk2 : decide (9 < k) = false := decide_eq_false (by unfold boxK at hbk; omega)
  have hn2 : (n != (q : Int)) = true := by rw [← hn]; simpa using hnq
  have HR := Lib.hid hr
  have hgl : gR < w.heap.size := Blk.lt hr
  have hb0 := ballocs (Below.refl w.heap.size w) (.cells tz 24)
  have HZ := Lib.hid (Blk.new w 24 tz)
  have HR1 := Lib.hid (hr.below hb0)
  have HB0 := Lib.hid hb0
  clear hr hb0 hx hE hk hn hbx hbk hnq
  go_enter Try.func52, Try.ntmps52
  go_wp2_with fail
  obtain ⟨w1, hw1⟩ : ∃ x, w.alloc (.cells #[.int .i64 0, .int .i64 0, .string ⟨#[]⟩, .slice none 0 0] 24) = x := ⟨_, rfl⟩
  rw [hw1] at HZ HR1 HB0 ⊢
  clear hw1
  refine (HUN.out w1).mono ?_
  rintro e w2 ⟨rfl, hw2⟩
  obtain rfl : w1 = w2 := hw2.symm
  clear hw2
  go_wp2_with fail
  refine (HBO.out w1).mono ?_
  rintro e w2 ⟨rfl, hw2⟩
  obtain rfl : w1 = w2 := hw2.symm
  clear hw2
  obtain ⟨d0, d1, d2, d3, f2, f3⟩ := HR1.out.four
  obtain ⟨z0, z1, z2, z3, y0, y1, y2, y3⟩ := HZ.out.four
  have hlz : w.heap.size < w1.heap.size := HZ.out.lt
  have hgl1 : gR < w1.heap.size := Blk.lt HR1.out
  have hne : gR ≠ w.heap.size := by omega
  go_wp2_with fail
  obtain ⟨r0, r1, r2, r3, _, _, _, _⟩ := (put4_blk (HZ.out.far (p := ⟨gR, 3, none⟩) (by show w.heap.size ≠ gR; omega) (.bool true)) (.int .i64 0) (.int .i64 0) (.string ⟨#[]⟩) (.slice none 0 0)).four
  unfold put4 at r0 r1 r2 r3
  exact bodyPost_ret (v := .agg #[.int .i64 0, .int .i64 0, .string ⟨#[]⟩, .slice none 0 0]) (by simp [results, Try.results52, go_sem, r0, r1, r2, r3]) rfl (rrd_bad (Keep.new (F := fun b => b = gR) HB0.out) HR1.out hgl none 0 0)
set_option maxRecDepth 100000 in
set_option maxHeartbeats 8000000 in
theorem rterm_leaf (gR h : Nat) (A : Option Addr) (l : List Int) (c q : Nat) (x : Int) (hx : U64 x) (hE : unE x = 0) (hlf : leafK (unK x)) (w : World) (hr : RRdr w gR (.pointer (some ⟨h, 0, none⟩)) A l.length c (q : Int) false) :
    Calls Try.prog 52 #[.pointer (some ⟨gR, 0, none⟩), .int .u64 x] w (RRdPost w gR (.pointer (some ⟨h, 0, none⟩)) A l c (some (.mk (unK x) (unN x) ⟨#[]⟩ [], q))) := by
  have HUN := Lib.hid (fun w => runpack_any x hx.1 hx.2 w)
  have HBO := Lib.hid (fun w => rboxed_any x hx.1 hx.2 w)
  have hbx : boxd x = false := by rw [boxd_eq hE]; exact decide_eq_false (by unfold leafK at hlf; unfold boxK; omega)
  have hnw : (Lit.int .i64 (unN x)).wf = true := by
    have h := un_facts hE
    obtain ⟨_, _, h3, h4, _⟩ := h
    refine WalkArith.wf_i64 ?_
    rcases hlf with e | e | e | e | e
    · rw [e] at h3 h4
      have e1 : low 1 = -576460752303423488 := rfl
      have e2 : high 1 = 576460752303423487 := rfl
      omega
    · rw [e] at h3 h4
      have e1 : low 3 = 0 := rfl
      have e2 : high 3 = 1073741824 := rfl
      omega
    · rw [e] at h3 h4
      have e1 : low 4 = 0 := rfl
      have e2 : high 4 = 1073741824 := rfl
      omega
    · rw [e] at h3 h4
      have e1 : low 6 = 0 := rfl
      have e2 : high 6 = 1073741824 := rfl
      omega
    · rw [e] at h3 h4
      have e1 : low 8 = 0 := rfl
      have e2 : high 8 = 0 := rfl
      omega
  obtain ⟨k, hk⟩ : ∃ k, unK x = k := ⟨_, rfl⟩
  obtain ⟨n, hn⟩ : ∃ n, unN x = n := ⟨_, rfl⟩
  rw [hk, hn] at HUN ⊢
  rw [hn] at hnw
  rw [hE] at HUN
  rw [hbx] at HBO
  rw [hk] at hlf
  have hkw : (Lit.int .i64 k).wf = true := by unfold leafK at hlf; exact WalkArith.wf_i64 (by omega)
  have hk1 : decide (k < 1) = false := decide_eq_false (by unfold leafK at hlf; omega)
  have hk2 : decide (9 < k) = false := decide_eq_false (by unfold leafK at hlf; omega)
  have b2 : (k == 2) = false := by unfold leafK at hlf; simp; omega
  have b7 : (k == 7) = false := by unfold leafK at hlf; simp; omega
  have b5 : (k == 5) = false := by unfold leafK at hlf; simp; omega
  have b9 : (k == 9) = false := by unfold leafK at hlf; simp; omega
  have HR := Lib.hid hr
  have hgl : gR < w.heap.size := Blk.lt hr
  have hb0 := ballocs (Below.refl w.heap.size w) (.cells tz 24)
  have HZ := Lib.hid (Blk.new w 24 tz)
  have HR1 := Lib.hid (hr.below hb0)
  have HB0 := Lib.hid hb0
  clear hr hb0 hx hE hk hn hbx hlf
  go_enter Try.func52, Try.ntmps52
  go_wp2_with fail
  obtain ⟨w1, hw1⟩ : ∃ x, w.alloc (.cells #[.int .i64 0, .int .i64 0, .string ⟨#[]⟩, .slice none 0 0] 24) = x := ⟨_, rfl⟩
  rw [hw1] at HZ HR1 HB0 ⊢
  clear hw1
  refine (HUN.out w1).mono ?_
  rintro e w2 ⟨rfl, hw2⟩
  obtain rfl : w1 = w2 := hw2.symm
  clear hw2
  go_wp2_with fail
  refine (HBO.out w1).mono ?_
  rintro e w2 ⟨rfl, hw2⟩
  obtain rfl : w1 = w2 := hw2.symm
  clear hw2
  obtain ⟨d0, d1, d2, d3, f2, f3⟩ := HR1.out.four
  obtain ⟨z0, z1, z2, z3, y0, y1, y2, y3⟩ := HZ.out.four
  have hlz : w.heap.size < w1.heap.size := HZ.out.lt
  have hgl1 : gR < w1.heap.size := Blk.lt HR1.out
  have hne : gR ≠ w.heap.size := by omega
  go_wp2_with fail
  obtain ⟨r0, r1, r2, r3, _, _, _, _⟩ := ((put4_blk HZ.out (.int .i64 k) (.int .i64 n) (.string ⟨#[]⟩) (.slice none 0 0)).alloc (.cells #[.int .i64 k, .int .i64 n, .string ⟨#[]⟩, .slice none 0 0] 24)).four
  unfold put4 at r0 r1 r2 r3
  exact bodyPost_ret (v := .agg #[.int .i64 k, .int .i64 n, .string ⟨#[]⟩, .slice none 0 0]) (by simp [results, Try.results52, go_sem, r0, r1, r2, r3]) rfl (RRdPost.alloc (rrd_leaf (s := ⟨#[]⟩) (Keep.new (F := fun b => b = gR) HB0.out) HR1.out hgl hkw hnw (by decide)) _)
set_option maxRecDepth 100000 in
set_option maxHeartbeats 8000000 in
theorem rterm_noatom (gR h : Nat) (A : Option Addr) (l : List Int) (c q : Nat) (x : Int) (hx : U64 x) (hE : unE x = 0) (hk : unK x = 2) (G : Nat → Prop) (Ts : List ByteArray) (hT : Ts[(unN x).toNat]? = none) (w : World) (hTab : RTab w G h Ts) (hr : RRdr w gR (.pointer (some ⟨h, 0, none⟩)) A l.length c (q : Int) false) :
    Calls Try.prog 52 #[.pointer (some ⟨gR, 0, none⟩), .int .u64 x] w (RRdPost w gR (.pointer (some ⟨h, 0, none⟩)) A l c none) := by
  have HUN := Lib.hid (fun w => runpack_any x hx.1 hx.2 w)
  have HBO := Lib.hid (fun w => rboxed_any x hx.1 hx.2 w)
  have hbx : boxd x = false := by rw [boxd_eq hE, hk]; rfl
  rw [hk, hE] at HUN
  rw [hbx] at HBO
  have hn0 : 0 ≤ unN x := by
    obtain ⟨_, _, h3, _⟩ := un_facts hE
    rw [hk] at h3
    have e1 : low 2 = 0 := rfl
    omega
  obtain ⟨n, hn⟩ : ∃ n : Nat, unN x = (n : Int) := ⟨(unN x).toNat, by omega⟩
  rw [hn] at HUN
  have hnT : (unN x).toNat = n := by omega
  rw [hnT] at hT
  obtain ⟨v, _, _, _, hBt, hRt, hsz, hl4, _⟩ := hTab
  obtain ⟨AT, cT, rfl, hcT, _⟩ := ownsRow_form hRt
  have HBT := Lib.hid (hBt.below (ballocs (Below.refl w.heap.size w) (.cells tz 24)) hBt.lt)
  have hRd := Lib.hid ((Reads.of_own hRt).below (ballocs (Below.refl w.heap.size w) (.cells tz 24)))
  have hge : decide ((Ts.length : Int) ≤ (n : Int)) = true := decide_eq_true (by have := List.getElem?_eq_none_iff.1 hT; omega)
  have hgp : ¬ ((n : Int) < (Ts.length : Int)) := by have := List.getElem?_eq_none_iff.1 hT; omega
  have hgd : decide ((n : Int) < (Ts.length : Int)) = false := decide_eq_false hgp
  have HR := Lib.hid hr
  have hgl : gR < w.heap.size := Blk.lt hr
  have hb0 := ballocs (Below.refl w.heap.size w) (.cells tz 24)
  have HZ := Lib.hid (Blk.new w 24 tz)
  have HR1 := Lib.hid (hr.below hb0)
  have HB0 := Lib.hid hb0
  clear hr hb0 hx hE hk hbx hn hnT hT hBt hRt hsz
  go_enter Try.func52, Try.ntmps52
  go_wp2_with fail
  obtain ⟨w1, hw1⟩ : ∃ x, w.alloc (.cells #[.int .i64 0, .int .i64 0, .string ⟨#[]⟩, .slice none 0 0] 24) = x := ⟨_, rfl⟩
  rw [hw1] at HZ HR1 HB0 HBT hRd ⊢
  clear hw1
  refine (HUN.out w1).mono ?_
  rintro e w2 ⟨rfl, hw2⟩
  obtain rfl : w1 = w2 := hw2.symm
  clear hw2
  go_wp2_with fail
  refine (HBO.out w1).mono ?_
  rintro e w2 ⟨rfl, hw2⟩
  obtain rfl : w1 = w2 := hw2.symm
  clear hw2
  obtain ⟨d0, d1, d2, d3, f2, f3⟩ := HR1.out.four
  obtain ⟨z0, z1, z2, z3, y0, y1, y2, y3⟩ := HZ.out.four
  have hlz : w.heap.size < w1.heap.size := HZ.out.lt
  have hgl1 : gR < w1.heap.size := Blk.lt HR1.out
  have hne : gR ≠ w.heap.size := by omega
  have t0 : w1.cell? ⟨h, 0, none⟩ = some (.slice AT Ts.length cT) := by rw [HBT.out.cell]; rfl
  have hhl : h < w1.heap.size := HBT.out.lt
  go_wp2_with fail
  obtain ⟨r0, r1, r2, r3, _, _, _, _⟩ := ((put4_blk (HZ.out.far (p := ⟨gR, 3, none⟩) (by show w.heap.size ≠ gR; omega) (.bool true)) (.int .i64 0) (.int .i64 0) (.string ⟨#[]⟩) (.slice none 0 0)).alloc (.cells #[.int .i64 2, .int .i64 (n : Int), .string ⟨#[]⟩, .slice none 0 0] 24)).four
  unfold put4 at r0 r1 r2 r3
  exact bodyPost_ret (v := .agg #[.int .i64 0, .int .i64 0, .string ⟨#[]⟩, .slice none 0 0]) (by simp [results, Try.results52, go_sem, r0, r1, r2, r3]) rfl (RRdPost.alloc (rrd_bad (Keep.new (F := fun b => b = gR) HB0.out) HR1.out hgl none 0 0) _)
set_option maxRecDepth 100000 in
set_option maxHeartbeats 8000000 in
theorem rterm_atom (gR h : Nat) (A : Option Addr) (l : List Int) (c q : Nat) (x : Int) (hx : U64 x) (hE : unE x = 0) (hk : unK x = 2) (G : Nat → Prop) (Ts : List ByteArray) (s : ByteArray) (hT : Ts[(unN x).toNat]? = some s) (w : World) (hTab : RTab w G h Ts) (hr : RRdr w gR (.pointer (some ⟨h, 0, none⟩)) A l.length c (q : Int) false) :
    Calls Try.prog 52 #[.pointer (some ⟨gR, 0, none⟩), .int .u64 x] w (RRdPost w gR (.pointer (some ⟨h, 0, none⟩)) A l c (some (.mk 2 0 s [], q))) := by
  have HUN := Lib.hid (fun w => runpack_any x hx.1 hx.2 w)
  have HBO := Lib.hid (fun w => rboxed_any x hx.1 hx.2 w)
  have hbx : boxd x = false := by rw [boxd_eq hE, hk]; rfl
  rw [hk, hE] at HUN
  rw [hbx] at HBO
  have hn0 : 0 ≤ unN x := by
    obtain ⟨_, _, h3, _⟩ := un_facts hE
    rw [hk] at h3
    have e1 : low 2 = 0 := rfl
    omega
  obtain ⟨n, hn⟩ : ∃ n : Nat, unN x = (n : Int) := ⟨(unN x).toNat, by omega⟩
  rw [hn] at HUN
  have hnT : (unN x).toNat = n := by omega
  rw [hnT] at hT
  obtain ⟨v, _, _, _, hBt, hRt, hsz, hl4, _⟩ := hTab
  obtain ⟨AT, cT, rfl, hcT, _⟩ := ownsRow_form hRt
  have HBT := Lib.hid (hBt.below (ballocs (Below.refl w.heap.size w) (.cells tz 24)) hBt.lt)
  have hRd := Lib.hid ((Reads.of_own hRt).below (ballocs (Below.refl w.heap.size w) (.cells tz 24)))
  have hlt := (List.getElem?_eq_some_iff.1 hT).1
  have hge : decide ((Ts.length : Int) ≤ (n : Int)) = false := decide_eq_false (by omega)
  have hn1 : (n : Int) < (Ts.length : Int) := by omega
  have hn00 : (0 : Int) ≤ (n : Int) := by omega
  have hgd : decide ((n : Int) < (Ts.length : Int)) = true := decide_eq_true hn1
  have hs64 : s.size ≤ maxLen := Nat.le_trans (hsz s (List.mem_of_getElem? hT)) (by decide)
  have HTT := Lib.hid hT
  have HR := Lib.hid hr
  have hgl : gR < w.heap.size := Blk.lt hr
  have hb0 := ballocs (Below.refl w.heap.size w) (.cells tz 24)
  have HZ := Lib.hid (Blk.new w 24 tz)
  have HR1 := Lib.hid (hr.below hb0)
  have HB0 := Lib.hid hb0
  clear hr hb0 hx hE hk hbx hn hnT hT hBt hRt hsz
  go_enter Try.func52, Try.ntmps52
  go_wp2_with fail
  obtain ⟨w1, hw1⟩ : ∃ x, w.alloc (.cells #[.int .i64 0, .int .i64 0, .string ⟨#[]⟩, .slice none 0 0] 24) = x := ⟨_, rfl⟩
  rw [hw1] at HZ HR1 HB0 HBT hRd ⊢
  clear hw1
  refine (HUN.out w1).mono ?_
  rintro e w2 ⟨rfl, hw2⟩
  obtain rfl : w1 = w2 := hw2.symm
  clear hw2
  go_wp2_with fail
  refine (HBO.out w1).mono ?_
  rintro e w2 ⟨rfl, hw2⟩
  obtain rfl : w1 = w2 := hw2.symm
  clear hw2
  obtain ⟨d0, d1, d2, d3, f2, f3⟩ := HR1.out.four
  obtain ⟨z0, z1, z2, z3, y0, y1, y2, y3⟩ := HZ.out.four
  have hlz : w.heap.size < w1.heap.size := HZ.out.lt
  have hgl1 : gR < w1.heap.size := Blk.lt HR1.out
  have hne : gR ≠ w.heap.size := by omega
  have t0 : w1.cell? ⟨h, 0, none⟩ = some (.slice AT Ts.length cT) := by rw [HBT.out.cell]; rfl
  have hhl : h < w1.heap.size := HBT.out.lt
  obtain ⟨ad, u, rfl, hab, hu, hcell⟩ := hRd.out.at_ (k := n) hlt
  obtain rfl : u = .string s := by rw [List.getElem?_map, HTT.out] at hu; injection hu with hu; exact hu.symm
  have habl : ad.block < w1.heap.size := Nat.lt_of_lt_of_le hab HB0.out.size
  have hcA : ∀ o, (w1.alloc o).cell? (ad.add n) = some (.string s) := fun o => (World.cell?_alloc_lt w1 o (ad.add n) (by rw [block_of_add]; exact habl)).trans hcell
  clear hu hab hlt hcell
  go_wp2_with fail
  obtain ⟨r0, r1, r2, r3, _, _, _, _⟩ := ((put4_blk HZ.out (.int .i64 2) (.int .i64 0) (.string s) (.slice none 0 0)).alloc (.cells #[.int .i64 2, .int .i64 0, .string s, .slice none 0 0] 24)).four
  unfold put4 at r0 r1 r2 r3
  exact bodyPost_ret (v := .agg #[.int .i64 2, .int .i64 0, .string s, .slice none 0 0]) (by simp [results, Try.results52, go_sem, r0, r1, r2, r3]) rfl (RRdPost.alloc (rrd_leaf (Keep.new (F := fun b => b = gR) HB0.out) HR1.out hgl (by decide) (by decide) hs64) _)
set_option maxRecDepth 100000 in
set_option maxHeartbeats 8000000 in
theorem rbox9_yes (gR h : Nat) (A : Option Addr) (l : List Int) (c q : Nat) (x : Int) (hx : U64 x) (hE : unE x = 0) (hk : unK x = 9) (hnq : unN x = (q : Int)) (hq : q ≤ l.length) (hl6 : l.length ≤ 65536) (hU : ∀ x ∈ l, U64 x) (hlc : l.length ≤ c) (G : Nat → Prop) (Ts : List ByteArray) (hA64 : ∀ s ∈ Ts, s.size ≤ 64) (fuel : Nat) (hf : l.length < q + (fuel + 1)) (IH : ∀ x : Int, U64 x → ∀ q : Nat, q ≤ l.length → l.length < q + fuel → ∀ w, REnvR w gR h G Ts A l → RRdr w gR (.pointer (some ⟨h, 0, none⟩)) A l.length c (q : Int) false → Calls Try.prog 52 #[.pointer (some ⟨gR, 0, none⟩), .int .u64 x] w (RRdPost w gR (.pointer (some ⟨h, 0, none⟩)) A l c (rdT Ts l fuel x q))) (r : Option (Tm × Nat)) (hres : r = partsR (rdT Ts l fuel) 9 0 ((l.drop q).take 2) (q + 2)) (hmq : q + 2 ≤ l.length) (w : World) (henv : REnvR w gR h G Ts A l) (hr : RRdr w gR (.pointer (some ⟨h, 0, none⟩)) A l.length c (q : Int) false) :
    Calls Try.prog 52 #[.pointer (some ⟨gR, 0, none⟩), .int .u64 x] w (RRdPost w gR (.pointer (some ⟨h, 0, none⟩)) A l c r) := by
  have HUN := Lib.hid (fun w => runpack_any x hx.1 hx.2 w)
  have HBO := Lib.hid (fun w => rboxed_any x hx.1 hx.2 w)
  have hbx : boxd x = true := by rw [boxd_eq hE, hk]; rfl
  rw [hk, hE] at HUN
  rw [hbx] at HBO
  rw [hnq] at HUN
  have HENV0 := Lib.hid henv
  have HR := Lib.hid hr
  have hgl : gR < w.heap.size := Blk.lt hr
  have hb0 := ballocs (Below.refl w.heap.size w) (.cells tz 24)
  have HZ := Lib.hid (Blk.new w 24 tz)
  have HR1 := Lib.hid (hr.below hb0)
  have HB0 := Lib.hid hb0
  clear hr hb0 hx hE hk hbx hnq henv
  go_enter Try.func52, Try.ntmps52
  go_wp2_with fail
  obtain ⟨w1, hw1⟩ : ∃ x, w.alloc (.cells #[.int .i64 0, .int .i64 0, .string ⟨#[]⟩, .slice none 0 0] 24) = x := ⟨_, rfl⟩
  rw [hw1] at HZ HR1 HB0 ⊢
  clear hw1
  refine (HUN.out w1).mono ?_
  rintro e w2 ⟨rfl, hw2⟩
  obtain rfl : w1 = w2 := hw2.symm
  clear hw2
  go_wp2_with fail
  refine (HBO.out w1).mono ?_
  rintro e w2 ⟨rfl, hw2⟩
  obtain rfl : w1 = w2 := hw2.symm
  clear hw2
  obtain ⟨d0, d1, d2, d3, f2, f3⟩ := HR1.out.four
  obtain ⟨z0, z1, z2, z3, y0, y1, y2, y3⟩ := HZ.out.four
  have hlz : w.heap.size < w1.heap.size := HZ.out.lt
  have hgl1 : gR < w1.heap.size := Blk.lt HR1.out
  have hne : gR ≠ w.heap.size := by omega
  go_wp2_with fail
  have hb2 := ballocs (Below.refl w1.heap.size w1) (.cells #[.int .i64 9, .int .i64 0, .string ⟨#[]⟩, .slice none 0 0] 24)
  have hg9 := Blk.new w1 24 #[.int .i64 9, .int .i64 0, .string ⟨#[]⟩, .slice none 0 0]
  obtain ⟨w2, hw2⟩ : ∃ x, w1.alloc (.cells #[.int .i64 9, .int .i64 0, .string ⟨#[]⟩, .slice none 0 0] 24) = x := ⟨_, rfl⟩
  rw [hw2] at hb2 hg9 ⊢
  clear hw2
  have hr2 := HR1.out.below hb2
  have hz2 := HZ.out.below hb2 HZ.out.lt
  have hk2 := Keep.new (F := fun b => b = gR) (fbelow HB0.out hb2)
  obtain ⟨G9, hG9⟩ : ∃ G9, w1.heap.size = G9 := ⟨_, rfl⟩
  rw [hG9] at hg9 hlz hgl1 ⊢
  have hn9 : G9 ≠ gR := by omega
  have hn91 : G9 ≠ w.heap.size := by omega
  have hn1 : ¬ (w.heap.size = gR) := fun e => hne e.symm
  have HR2 := Lib.hid hr2; have HZ2 := Lib.hid hz2; have HG2 := Lib.hid hg9; have HK2 := Lib.hid hk2
  clear hb2 hr2 hz2 hg9 hk2 hG9 d0 d1 d2 d3 f2 f3 z0 z1 z2 z3 y0 y1 y2 y3
  refine (rtake_ok gR (.pointer (some ⟨h, 0, none⟩)) A l.length c q 2 w2 HR2.out hl6 hmq).mono ?_
  rintro e w3 ⟨rfl, hr3, hk3⟩
  have HG3 := Lib.hid (HG2.out.keep hk3 hn9); have HZ3 := Lib.hid (HZ2.out.keep hk3 hn1); have HK3 := Lib.hid (HK2.out.trans hk3 (fun _ _ h => h))
  have HR3 := Lib.hid hr3
  have hl93 : G9 < w3.heap.size := HG3.out.lt
  have hgr3 : gR < w3.heap.size := by omega
  clear hk3 hr3
  go_wp2_with fail
  refine (rparts_any gR (.pointer (some ⟨h, 0, none⟩)) A l c h G Ts hU hlc hl6 (rdT Ts l fuel) fuel q 2 (q + 2) hmq hmq (fun h0 => by omega) (fun x q y hx hq hy => by
    have h := rdT_ok hA64 hU fuel x q y hx hq hy
    exact ⟨by rw [h.q_eq]; omega, h.len⟩) IH w3 (HENV0.out.keep HK3.out) HR3.out).mono ?_
  intro e w9 hp
  have HP := Lib.hid hp
  obtain ⟨A1, m1, c1, rfl, hk9, _⟩ := hp
  have HG9 := Lib.hid (HG3.out.keep hk9 hn9); have HZ9 := Lib.hid (HZ3.out.keep hk9 hn1); have HK9 := Lib.hid (HK3.out.trans hk9 (fun _ _ h => h))
  have hl99 : G9 < w9.heap.size := HG9.out.lt
  clear hk9
  obtain ⟨o0, o1, o2, o3, u0, u1, u2, u3⟩ := HG9.out.four
  obtain ⟨z0, z1, z2, z3, y0, y1, y2, y3⟩ := HZ9.out.four
  have hlw9 : w.heap.size < w9.heap.size := HZ9.out.lt
  go_wp2_with fail
  obtain ⟨r0, r1, r2, r3, _, _, _, _⟩ := (put4_blk (HZ9.out.far (p := ⟨G9, 3, none⟩) (by show w.heap.size ≠ G9; omega) (.slice A1 m1 c1)) (.int .i64 9) (.int .i64 0) (.string ⟨#[]⟩) (.slice A1 m1 c1)).four
  unfold put4 at r0 r1 r2 r3
  exact bodyPost_ret (v := .agg #[.int .i64 9, .int .i64 0, .string ⟨#[]⟩, .slice A1 m1 c1]) (by simp [results, Try.results52, go_sem, r0, r1, r2, r3]) rfl (rrd_parts hgl hlz hl93 HK3.out (by decide) (by decide) HP.out (by rw [hres]; rfl))
set_option maxRecDepth 100000 in
set_option maxHeartbeats 8000000 in
theorem rbox9_no (gR h : Nat) (A : Option Addr) (l : List Int) (c q : Nat) (x : Int) (hx : U64 x) (hE : unE x = 0) (hk : unK x = 9) (hnq : unN x = (q : Int)) (hq : q ≤ l.length) (hl6 : l.length ≤ 65536) (hU : ∀ x ∈ l, U64 x) (hlc : l.length ≤ c) (G : Nat → Prop) (Ts : List ByteArray) (hmq : l.length < q + 2) (w : World) (henv : REnvR w gR h G Ts A l) (hr : RRdr w gR (.pointer (some ⟨h, 0, none⟩)) A l.length c (q : Int) false) :
    Calls Try.prog 52 #[.pointer (some ⟨gR, 0, none⟩), .int .u64 x] w (RRdPost w gR (.pointer (some ⟨h, 0, none⟩)) A l c none) := by
  have HUN := Lib.hid (fun w => runpack_any x hx.1 hx.2 w)
  have HBO := Lib.hid (fun w => rboxed_any x hx.1 hx.2 w)
  have hbx : boxd x = true := by rw [boxd_eq hE, hk]; rfl
  rw [hk, hE] at HUN
  rw [hbx] at HBO
  rw [hnq] at HUN
  have HENV0 := Lib.hid henv
  have HR := Lib.hid hr
  have hgl : gR < w.heap.size := Blk.lt hr
  have hb0 := ballocs (Below.refl w.heap.size w) (.cells tz 24)
  have HZ := Lib.hid (Blk.new w 24 tz)
  have HR1 := Lib.hid (hr.below hb0)
  have HB0 := Lib.hid hb0
  clear hr hb0 hx hE hk hbx hnq henv
  go_enter Try.func52, Try.ntmps52
  go_wp2_with fail
  obtain ⟨w1, hw1⟩ : ∃ x, w.alloc (.cells #[.int .i64 0, .int .i64 0, .string ⟨#[]⟩, .slice none 0 0] 24) = x := ⟨_, rfl⟩
  rw [hw1] at HZ HR1 HB0 ⊢
  clear hw1
  refine (HUN.out w1).mono ?_
  rintro e w2 ⟨rfl, hw2⟩
  obtain rfl : w1 = w2 := hw2.symm
  clear hw2
  go_wp2_with fail
  refine (HBO.out w1).mono ?_
  rintro e w2 ⟨rfl, hw2⟩
  obtain rfl : w1 = w2 := hw2.symm
  clear hw2
  obtain ⟨d0, d1, d2, d3, f2, f3⟩ := HR1.out.four
  obtain ⟨z0, z1, z2, z3, y0, y1, y2, y3⟩ := HZ.out.four
  have hlz : w.heap.size < w1.heap.size := HZ.out.lt
  have hgl1 : gR < w1.heap.size := Blk.lt HR1.out
  have hne : gR ≠ w.heap.size := by omega
  go_wp2_with fail
  have hb2 := ballocs (Below.refl w1.heap.size w1) (.cells #[.int .i64 9, .int .i64 0, .string ⟨#[]⟩, .slice none 0 0] 24)
  have hg9 := Blk.new w1 24 #[.int .i64 9, .int .i64 0, .string ⟨#[]⟩, .slice none 0 0]
  obtain ⟨w2, hw2⟩ : ∃ x, w1.alloc (.cells #[.int .i64 9, .int .i64 0, .string ⟨#[]⟩, .slice none 0 0] 24) = x := ⟨_, rfl⟩
  rw [hw2] at hb2 hg9 ⊢
  clear hw2
  have hr2 := HR1.out.below hb2
  have hz2 := HZ.out.below hb2 HZ.out.lt
  have hk2 := Keep.new (F := fun b => b = gR) (fbelow HB0.out hb2)
  obtain ⟨G9, hG9⟩ : ∃ G9, w1.heap.size = G9 := ⟨_, rfl⟩
  rw [hG9] at hg9 hlz hgl1 ⊢
  have hn9 : G9 ≠ gR := by omega
  have hn91 : G9 ≠ w.heap.size := by omega
  have hn1 : ¬ (w.heap.size = gR) := fun e => hne e.symm
  have HR2 := Lib.hid hr2; have HZ2 := Lib.hid hz2; have HG2 := Lib.hid hg9; have HK2 := Lib.hid hk2
  clear hb2 hr2 hz2 hg9 hk2 hG9 d0 d1 d2 d3 f2 f3 z0 z1 z2 z3 y0 y1 y2 y3
  refine (rtake_no gR (.pointer (some ⟨h, 0, none⟩)) A l.length c q 2 w2 HR2.out hl6 (by omega) (by omega) hmq).mono ?_
  rintro e w3 ⟨rfl, hr3, hk3⟩
  have HG3 := Lib.hid (HG2.out.keep hk3 hn9); have HZ3 := Lib.hid (HZ2.out.keep hk3 hn1); have HK3 := Lib.hid (HK2.out.trans hk3 (fun _ _ h => h))
  have HR3 := Lib.hid hr3
  have hl93 : G9 < w3.heap.size := HG3.out.lt
  have hgr3 : gR < w3.heap.size := by omega
  clear hk3 hr3
  go_wp2_with fail
  refine (rparts_bad gR (.pointer (some ⟨h, 0, none⟩)) A l.length c _ _ _ w3 HR3.out).mono ?_
  rintro e w9 ⟨rfl, hw9⟩
  obtain rfl : w3 = w9 := hw9.symm
  clear hw9
  obtain ⟨o0, o1, o2, o3, u0, u1, u2, u3⟩ := HG3.out.four
  obtain ⟨z0, z1, z2, z3, y0, y1, y2, y3⟩ := HZ3.out.four
  have hlw3 : w.heap.size < w3.heap.size := HZ3.out.lt
  go_wp2_with fail
  obtain ⟨r0, r1, r2, r3, _, _, _, _⟩ := (put4_blk (HZ3.out.far (p := ⟨G9, 3, none⟩) (by show w.heap.size ≠ G9; omega) (.slice none 0 0)) (.int .i64 9) (.int .i64 0) (.string ⟨#[]⟩) (.slice none 0 0)).four
  unfold put4 at r0 r1 r2 r3
  exact bodyPost_ret (v := .agg #[.int .i64 9, .int .i64 0, .string ⟨#[]⟩, .slice none 0 0]) (by simp [results, Try.results52, go_sem, r0, r1, r2, r3]) rfl (rrd_bad2 (HK3.out.setCell (p := ⟨G9, 3, none⟩) (.inr (by show w.heap.size ≤ G9; omega)) _) (Blk.far HR3.out (by show gR ≠ G9; omega) _) hgl none 0 0)
set_option maxRecDepth 100000 in
set_option maxHeartbeats 8000000 in
theorem rbox7_yes (gR h : Nat) (A : Option Addr) (l : List Int) (c q : Nat) (x : Int) (hx : U64 x) (hE : unE x = 0) (hk : unK x = 7) (hnq : unN x = (q : Int)) (hq : q ≤ l.length) (hl6 : l.length ≤ 65536) (hU : ∀ x ∈ l, U64 x) (hlc : l.length ≤ c) (x4 : Int) (hx4 : l[q]? = some x4) (he4 : unE x4 = 0) (hk4 : unK x4 = 10) (m : Nat) (hm4 : unN x4 = (m : Int)) (G : Nat → Prop) (Ts : List ByteArray) (hA64 : ∀ s ∈ Ts, s.size ≤ 64) (fuel : Nat) (hf : l.length < q + (fuel + 1)) (IH : ∀ x : Int, U64 x → ∀ q : Nat, q ≤ l.length → l.length < q + fuel → ∀ w, REnvR w gR h G Ts A l → RRdr w gR (.pointer (some ⟨h, 0, none⟩)) A l.length c (q : Int) false → Calls Try.prog 52 #[.pointer (some ⟨gR, 0, none⟩), .int .u64 x] w (RRdPost w gR (.pointer (some ⟨h, 0, none⟩)) A l c (rdT Ts l fuel x q))) (r : Option (Tm × Nat)) (hres : r = partsR (rdT Ts l fuel) 7 0 ((l.drop (q + 1)).take m) ((q + 1) + m)) (hmq : (q + 1) + m ≤ l.length) (w : World) (henv : REnvR w gR h G Ts A l) (hr : RRdr w gR (.pointer (some ⟨h, 0, none⟩)) A l.length c (q : Int) false) :
    Calls Try.prog 52 #[.pointer (some ⟨gR, 0, none⟩), .int .u64 x] w (RRdPost w gR (.pointer (some ⟨h, 0, none⟩)) A l c r) := by
  have HUN := Lib.hid (fun w => runpack_any x hx.1 hx.2 w)
  have HBO := Lib.hid (fun w => rboxed_any x hx.1 hx.2 w)
  have hbx : boxd x = true := by rw [boxd_eq hE, hk]; rfl
  rw [hk, hE] at HUN
  rw [hbx] at HBO
  rw [hnq] at HUN
  have HENV0 := Lib.hid henv
  have HR := Lib.hid hr
  have hgl : gR < w.heap.size := Blk.lt hr
  have hb0 := ballocs (Below.refl w.heap.size w) (.cells tz 24)
  have HZ := Lib.hid (Blk.new w 24 tz)
  have HR1 := Lib.hid (hr.below hb0)
  have HB0 := Lib.hid hb0
  clear hr hb0 hx hE hk hbx hnq henv
  go_enter Try.func52, Try.ntmps52
  go_wp2_with fail
  obtain ⟨w1, hw1⟩ : ∃ x, w.alloc (.cells #[.int .i64 0, .int .i64 0, .string ⟨#[]⟩, .slice none 0 0] 24) = x := ⟨_, rfl⟩
  rw [hw1] at HZ HR1 HB0 ⊢
  clear hw1
  refine (HUN.out w1).mono ?_
  rintro e w2 ⟨rfl, hw2⟩
  obtain rfl : w1 = w2 := hw2.symm
  clear hw2
  go_wp2_with fail
  refine (HBO.out w1).mono ?_
  rintro e w2 ⟨rfl, hw2⟩
  obtain rfl : w1 = w2 := hw2.symm
  clear hw2
  obtain ⟨d0, d1, d2, d3, f2, f3⟩ := HR1.out.four
  obtain ⟨z0, z1, z2, z3, y0, y1, y2, y3⟩ := HZ.out.four
  have hlz : w.heap.size < w1.heap.size := HZ.out.lt
  have hgl1 : gR < w1.heap.size := Blk.lt HR1.out
  have hne : gR ≠ w.heap.size := by omega
  go_wp2_with fail
  have hb2 := ballocs (Below.refl w1.heap.size w1) (.cells #[.int .i64 7, .int .i64 0, .string ⟨#[]⟩, .slice none 0 0] 24)
  have hg9 := Blk.new w1 24 #[.int .i64 7, .int .i64 0, .string ⟨#[]⟩, .slice none 0 0]
  obtain ⟨w2, hw2⟩ : ∃ x, w1.alloc (.cells #[.int .i64 7, .int .i64 0, .string ⟨#[]⟩, .slice none 0 0] 24) = x := ⟨_, rfl⟩
  rw [hw2] at hb2 hg9 ⊢
  clear hw2
  have hr2 := HR1.out.below hb2
  have hz2 := HZ.out.below hb2 HZ.out.lt
  have hk2 := Keep.new (F := fun b => b = gR) (fbelow HB0.out hb2)
  obtain ⟨G9, hG9⟩ : ∃ G9, w1.heap.size = G9 := ⟨_, rfl⟩
  rw [hG9] at hg9 hlz hgl1 ⊢
  have hn9 : G9 ≠ gR := by omega
  have hn91 : G9 ≠ w.heap.size := by omega
  have hn1 : ¬ (w.heap.size = gR) := fun e => hne e.symm
  have HR2 := Lib.hid hr2; have HZ2 := Lib.hid hz2; have HG2 := Lib.hid hg9; have HK2 := Lib.hid hk2
  clear hb2 hr2 hz2 hg9 hk2 hG9 d0 d1 d2 d3 f2 f3 z0 z1 z2 z3 y0 y1 y2 y3
  refine (rhead_any gR (.pointer (some ⟨h, 0, none⟩)) A l c q 10 w2 HR2.out (HENV0.out.keep HK2.out).2.2.1 hU hl6 hq).mono ?_
  rintro e w3 ⟨hk3, (⟨y4, hy4, _, _, rfl, hr3⟩ | ⟨hno4, rfl, q4, hr4⟩)⟩
  rotate_left
  · exact absurd ⟨he4, hk4⟩ (hno4 _ hx4)
  obtain rfl : x4 = y4 := by rw [hx4] at hy4; injection hy4
  obtain ⟨_, _, m1, m2, m3, _, _⟩ := un_facts he4
  rw [hk4] at m1 m2 m3
  have e1 : low 10 = 0 := rfl
  have e2 : high 10 = 64 := rfl
  rw [hm4] at m1 m2 m3 ⊢
  rw [e1] at m1
  rw [e2] at m2
  have hm30 : m ≤ 137438953536 := by omega
  have hm64 : m ≤ 64 := by omega
  have hq1 : q < l.length := (List.getElem?_eq_some_iff.1 hx4).1
  have HG3 := Lib.hid (HG2.out.keep hk3 hn9); have HZ3 := Lib.hid (HZ2.out.keep hk3 hn1); have HK3 := Lib.hid (HK2.out.trans hk3 (fun _ _ h => h))
  have HR3 := Lib.hid hr3
  have hl93 : G9 < w3.heap.size := HG3.out.lt
  have hlw3 : w.heap.size < w3.heap.size := HZ3.out.lt
  have hgr3 : gR < w3.heap.size := by omega
  obtain ⟨o0, o1, o2, o3, u0, u1, u2, u3⟩ := HG3.out.four
  clear hk3 hr3 e1 e2 m1 m2 m3 hy4 hm4 he4 hk4 hx4
  go_wp2_with fail
  clear o0 o1 o2 o3 u0 u1 u2 u3
  refine (rtake_ok gR (.pointer (some ⟨h, 0, none⟩)) A l.length c (q + 1) m w3 HR3.out hl6 hmq).mono ?_
  rintro e w4 ⟨rfl, hr4, hk4⟩
  have HG4 := Lib.hid (HG3.out.keep hk4 hn9); have HZ4 := Lib.hid (HZ3.out.keep hk4 hn1); have HK4 := Lib.hid (HK3.out.trans hk4 (fun _ _ h => h))
  have HR4 := Lib.hid hr4
  have hl94 : G9 < w4.heap.size := HG4.out.lt
  have hgr4 : gR < w4.heap.size := by omega
  clear hk4 hr4
  go_wp2_with fail
  refine (rparts_any gR (.pointer (some ⟨h, 0, none⟩)) A l c h G Ts hU hlc hl6 (rdT Ts l fuel) fuel (q + 1) m ((q + 1) + m) hmq hmq (fun h0 => by omega) (fun x q y hx hq hy => by
    have h := rdT_ok hA64 hU fuel x q y hx hq hy
    exact ⟨by rw [h.q_eq]; omega, h.len⟩) IH w4 (HENV0.out.keep HK4.out) HR4.out).mono ?_
  intro e w9 hp
  have HP := Lib.hid hp
  obtain ⟨A1, m1, c1, rfl, hk9, _⟩ := hp
  have HG9 := Lib.hid (HG4.out.keep hk9 hn9); have HZ9 := Lib.hid (HZ4.out.keep hk9 hn1); have HK9 := Lib.hid (HK4.out.trans hk9 (fun _ _ h => h))
  have hl99 : G9 < w9.heap.size := HG9.out.lt
  clear hk9
  obtain ⟨o0, o1, o2, o3, u0, u1, u2, u3⟩ := HG9.out.four
  obtain ⟨z0, z1, z2, z3, y0, y1, y2, y3⟩ := HZ9.out.four
  have hlw9 : w.heap.size < w9.heap.size := HZ9.out.lt
  go_wp2_with fail
  obtain ⟨r0, r1, r2, r3, _, _, _, _⟩ := (put4_blk (HZ9.out.far (p := ⟨G9, 3, none⟩) (by show w.heap.size ≠ G9; omega) (.slice A1 m1 c1)) (.int .i64 7) (.int .i64 0) (.string ⟨#[]⟩) (.slice A1 m1 c1)).four
  unfold put4 at r0 r1 r2 r3
  exact bodyPost_ret (v := .agg #[.int .i64 7, .int .i64 0, .string ⟨#[]⟩, .slice A1 m1 c1]) (by simp [results, Try.results52, go_sem, r0, r1, r2, r3]) rfl (rrd_parts hgl hlz hl94 HK4.out (by decide) (by decide) HP.out (by rw [hres]; rfl))
set_option maxRecDepth 100000 in
set_option maxHeartbeats 8000000 in
theorem rbox7_no (gR h : Nat) (A : Option Addr) (l : List Int) (c q : Nat) (x : Int) (hx : U64 x) (hE : unE x = 0) (hk : unK x = 7) (hnq : unN x = (q : Int)) (hq : q ≤ l.length) (hl6 : l.length ≤ 65536) (hU : ∀ x ∈ l, U64 x) (hlc : l.length ≤ c) (x4 : Int) (hx4 : l[q]? = some x4) (he4 : unE x4 = 0) (hk4 : unK x4 = 10) (m : Nat) (hm4 : unN x4 = (m : Int)) (G : Nat → Prop) (Ts : List ByteArray) (hmq : l.length < (q + 1) + m) (w : World) (henv : REnvR w gR h G Ts A l) (hr : RRdr w gR (.pointer (some ⟨h, 0, none⟩)) A l.length c (q : Int) false) :
    Calls Try.prog 52 #[.pointer (some ⟨gR, 0, none⟩), .int .u64 x] w (RRdPost w gR (.pointer (some ⟨h, 0, none⟩)) A l c none) := by
  have HUN := Lib.hid (fun w => runpack_any x hx.1 hx.2 w)
  have HBO := Lib.hid (fun w => rboxed_any x hx.1 hx.2 w)
  have hbx : boxd x = true := by rw [boxd_eq hE, hk]; rfl
  rw [hk, hE] at HUN
  rw [hbx] at HBO
  rw [hnq] at HUN
  have HENV0 := Lib.hid henv
  have HR := Lib.hid hr
  have hgl : gR < w.heap.size := Blk.lt hr
  have hb0 := ballocs (Below.refl w.heap.size w) (.cells tz 24)
  have HZ := Lib.hid (Blk.new w 24 tz)
  have HR1 := Lib.hid (hr.below hb0)
  have HB0 := Lib.hid hb0
  clear hr hb0 hx hE hk hbx hnq henv
  go_enter Try.func52, Try.ntmps52
  go_wp2_with fail
  obtain ⟨w1, hw1⟩ : ∃ x, w.alloc (.cells #[.int .i64 0, .int .i64 0, .string ⟨#[]⟩, .slice none 0 0] 24) = x := ⟨_, rfl⟩
  rw [hw1] at HZ HR1 HB0 ⊢
  clear hw1
  refine (HUN.out w1).mono ?_
  rintro e w2 ⟨rfl, hw2⟩
  obtain rfl : w1 = w2 := hw2.symm
  clear hw2
  go_wp2_with fail
  refine (HBO.out w1).mono ?_
  rintro e w2 ⟨rfl, hw2⟩
  obtain rfl : w1 = w2 := hw2.symm
  clear hw2
  obtain ⟨d0, d1, d2, d3, f2, f3⟩ := HR1.out.four
  obtain ⟨z0, z1, z2, z3, y0, y1, y2, y3⟩ := HZ.out.four
  have hlz : w.heap.size < w1.heap.size := HZ.out.lt
  have hgl1 : gR < w1.heap.size := Blk.lt HR1.out
  have hne : gR ≠ w.heap.size := by omega
  go_wp2_with fail
  have hb2 := ballocs (Below.refl w1.heap.size w1) (.cells #[.int .i64 7, .int .i64 0, .string ⟨#[]⟩, .slice none 0 0] 24)
  have hg9 := Blk.new w1 24 #[.int .i64 7, .int .i64 0, .string ⟨#[]⟩, .slice none 0 0]
  obtain ⟨w2, hw2⟩ : ∃ x, w1.alloc (.cells #[.int .i64 7, .int .i64 0, .string ⟨#[]⟩, .slice none 0 0] 24) = x := ⟨_, rfl⟩
  rw [hw2] at hb2 hg9 ⊢
  clear hw2
  have hr2 := HR1.out.below hb2
  have hz2 := HZ.out.below hb2 HZ.out.lt
  have hk2 := Keep.new (F := fun b => b = gR) (fbelow HB0.out hb2)
  obtain ⟨G9, hG9⟩ : ∃ G9, w1.heap.size = G9 := ⟨_, rfl⟩
  rw [hG9] at hg9 hlz hgl1 ⊢
  have hn9 : G9 ≠ gR := by omega
  have hn91 : G9 ≠ w.heap.size := by omega
  have hn1 : ¬ (w.heap.size = gR) := fun e => hne e.symm
  have HR2 := Lib.hid hr2; have HZ2 := Lib.hid hz2; have HG2 := Lib.hid hg9; have HK2 := Lib.hid hk2
  clear hb2 hr2 hz2 hg9 hk2 hG9 d0 d1 d2 d3 f2 f3 z0 z1 z2 z3 y0 y1 y2 y3
  refine (rhead_any gR (.pointer (some ⟨h, 0, none⟩)) A l c q 10 w2 HR2.out (HENV0.out.keep HK2.out).2.2.1 hU hl6 hq).mono ?_
  rintro e w3 ⟨hk3, (⟨y4, hy4, _, _, rfl, hr3⟩ | ⟨hno4, rfl, q4, hr4⟩)⟩
  rotate_left
  · exact absurd ⟨he4, hk4⟩ (hno4 _ hx4)
  obtain rfl : x4 = y4 := by rw [hx4] at hy4; injection hy4
  obtain ⟨_, _, m1, m2, m3, _, _⟩ := un_facts he4
  rw [hk4] at m1 m2 m3
  have e1 : low 10 = 0 := rfl
  have e2 : high 10 = 64 := rfl
  rw [hm4] at m1 m2 m3 ⊢
  rw [e1] at m1
  rw [e2] at m2
  have hm30 : m ≤ 137438953536 := by omega
  have hm64 : m ≤ 64 := by omega
  have hq1 : q < l.length := (List.getElem?_eq_some_iff.1 hx4).1
  have HG3 := Lib.hid (HG2.out.keep hk3 hn9); have HZ3 := Lib.hid (HZ2.out.keep hk3 hn1); have HK3 := Lib.hid (HK2.out.trans hk3 (fun _ _ h => h))
  have HR3 := Lib.hid hr3
  have hl93 : G9 < w3.heap.size := HG3.out.lt
  have hlw3 : w.heap.size < w3.heap.size := HZ3.out.lt
  have hgr3 : gR < w3.heap.size := by omega
  obtain ⟨o0, o1, o2, o3, u0, u1, u2, u3⟩ := HG3.out.four
  clear hk3 hr3 e1 e2 m1 m2 m3 hy4 hm4 he4 hk4 hx4
  go_wp2_with fail
  clear o0 o1 o2 o3 u0 u1 u2 u3
  refine (rtake_no gR (.pointer (some ⟨h, 0, none⟩)) A l.length c (q + 1) m w3 HR3.out hl6 (by omega) (by omega) hmq).mono ?_
  rintro e w4 ⟨rfl, hr4, hk4⟩
  have HG4 := Lib.hid (HG3.out.keep hk4 hn9); have HZ4 := Lib.hid (HZ3.out.keep hk4 hn1); have HK4 := Lib.hid (HK3.out.trans hk4 (fun _ _ h => h))
  have HR4 := Lib.hid hr4
  have hl94 : G9 < w4.heap.size := HG4.out.lt
  have hgr4 : gR < w4.heap.size := by omega
  clear hk4 hr4
  go_wp2_with fail
  refine (rparts_bad gR (.pointer (some ⟨h, 0, none⟩)) A l.length c _ _ _ w4 HR4.out).mono ?_
  rintro e w9 ⟨rfl, hw9⟩
  obtain rfl : w4 = w9 := hw9.symm
  clear hw9
  obtain ⟨o0, o1, o2, o3, u0, u1, u2, u3⟩ := HG4.out.four
  obtain ⟨z0, z1, z2, z3, y0, y1, y2, y3⟩ := HZ4.out.four
  have hlw4 : w.heap.size < w4.heap.size := HZ4.out.lt
  go_wp2_with fail
  obtain ⟨r0, r1, r2, r3, _, _, _, _⟩ := (put4_blk (HZ4.out.far (p := ⟨G9, 3, none⟩) (by show w.heap.size ≠ G9; omega) (.slice none 0 0)) (.int .i64 7) (.int .i64 0) (.string ⟨#[]⟩) (.slice none 0 0)).four
  unfold put4 at r0 r1 r2 r3
  exact bodyPost_ret (v := .agg #[.int .i64 7, .int .i64 0, .string ⟨#[]⟩, .slice none 0 0]) (by simp [results, Try.results52, go_sem, r0, r1, r2, r3]) rfl (rrd_bad2 (HK4.out.setCell (p := ⟨G9, 3, none⟩) (.inr (by show w.heap.size ≤ G9; omega)) _) (Blk.far HR4.out (by show gR ≠ G9; omega) _) hgl none 0 0)
set_option maxRecDepth 100000 in
set_option maxHeartbeats 8000000 in
theorem rbox7_nohead (gR h : Nat) (A : Option Addr) (l : List Int) (c q : Nat) (x : Int) (hx : U64 x) (hE : unE x = 0) (hk : unK x = 7) (hnq : unN x = (q : Int)) (hq : q ≤ l.length) (hl6 : l.length ≤ 65536) (hU : ∀ x ∈ l, U64 x) (hlc : l.length ≤ c) (hno : ∀ y, l[q]? = some y → ¬ (unE y = 0 ∧ unK y = 10)) (G : Nat → Prop) (Ts : List ByteArray) (w : World) (henv : REnvR w gR h G Ts A l) (hr : RRdr w gR (.pointer (some ⟨h, 0, none⟩)) A l.length c (q : Int) false) :
    Calls Try.prog 52 #[.pointer (some ⟨gR, 0, none⟩), .int .u64 x] w (RRdPost w gR (.pointer (some ⟨h, 0, none⟩)) A l c none) := by
  have HUN := Lib.hid (fun w => runpack_any x hx.1 hx.2 w)
  have HBO := Lib.hid (fun w => rboxed_any x hx.1 hx.2 w)
  have hbx : boxd x = true := by rw [boxd_eq hE, hk]; rfl
  rw [hk, hE] at HUN
  rw [hbx] at HBO
  rw [hnq] at HUN
  have HENV0 := Lib.hid henv
  have HR := Lib.hid hr
  have hgl : gR < w.heap.size := Blk.lt hr
  have hb0 := ballocs (Below.refl w.heap.size w) (.cells tz 24)
  have HZ := Lib.hid (Blk.new w 24 tz)
  have HR1 := Lib.hid (hr.below hb0)
  have HB0 := Lib.hid hb0
  clear hr hb0 hx hE hk hbx hnq henv
  go_enter Try.func52, Try.ntmps52
  go_wp2_with fail
  obtain ⟨w1, hw1⟩ : ∃ x, w.alloc (.cells #[.int .i64 0, .int .i64 0, .string ⟨#[]⟩, .slice none 0 0] 24) = x := ⟨_, rfl⟩
  rw [hw1] at HZ HR1 HB0 ⊢
  clear hw1
  refine (HUN.out w1).mono ?_
  rintro e w2 ⟨rfl, hw2⟩
  obtain rfl : w1 = w2 := hw2.symm
  clear hw2
  go_wp2_with fail
  refine (HBO.out w1).mono ?_
  rintro e w2 ⟨rfl, hw2⟩
  obtain rfl : w1 = w2 := hw2.symm
  clear hw2
  obtain ⟨d0, d1, d2, d3, f2, f3⟩ := HR1.out.four
  obtain ⟨z0, z1, z2, z3, y0, y1, y2, y3⟩ := HZ.out.four
  have hlz : w.heap.size < w1.heap.size := HZ.out.lt
  have hgl1 : gR < w1.heap.size := Blk.lt HR1.out
  have hne : gR ≠ w.heap.size := by omega
  go_wp2_with fail
  have hb2 := ballocs (Below.refl w1.heap.size w1) (.cells #[.int .i64 7, .int .i64 0, .string ⟨#[]⟩, .slice none 0 0] 24)
  have hg9 := Blk.new w1 24 #[.int .i64 7, .int .i64 0, .string ⟨#[]⟩, .slice none 0 0]
  obtain ⟨w2, hw2⟩ : ∃ x, w1.alloc (.cells #[.int .i64 7, .int .i64 0, .string ⟨#[]⟩, .slice none 0 0] 24) = x := ⟨_, rfl⟩
  rw [hw2] at hb2 hg9 ⊢
  clear hw2
  have hr2 := HR1.out.below hb2
  have hz2 := HZ.out.below hb2 HZ.out.lt
  have hk2 := Keep.new (F := fun b => b = gR) (fbelow HB0.out hb2)
  obtain ⟨G9, hG9⟩ : ∃ G9, w1.heap.size = G9 := ⟨_, rfl⟩
  rw [hG9] at hg9 hlz hgl1 ⊢
  have hn9 : G9 ≠ gR := by omega
  have hn91 : G9 ≠ w.heap.size := by omega
  have hn1 : ¬ (w.heap.size = gR) := fun e => hne e.symm
  have HR2 := Lib.hid hr2; have HZ2 := Lib.hid hz2; have HG2 := Lib.hid hg9; have HK2 := Lib.hid hk2
  clear hb2 hr2 hz2 hg9 hk2 hG9 d0 d1 d2 d3 f2 f3 z0 z1 z2 z3 y0 y1 y2 y3
  refine (rhead_any gR (.pointer (some ⟨h, 0, none⟩)) A l c q 10 w2 HR2.out (HENV0.out.keep HK2.out).2.2.1 hU hl6 hq).mono ?_
  rintro e w3 ⟨hk3, (⟨y4, hy4, hye, hyk, rfl, hr3⟩ | ⟨_, rfl, q3, hr3⟩)⟩
  · exact absurd ⟨hye, hyk⟩ (hno _ hy4)
  have HG3 := Lib.hid (HG2.out.keep hk3 hn9); have HZ3 := Lib.hid (HZ2.out.keep hk3 hn1); have HK3 := Lib.hid (HK2.out.trans hk3 (fun _ _ h => h))
  have HR3 := Lib.hid hr3
  have hl93 : G9 < w3.heap.size := HG3.out.lt
  have hlw3 : w.heap.size < w3.heap.size := HZ3.out.lt
  have hgr3 : gR < w3.heap.size := by omega
  obtain ⟨o0, o1, o2, o3, u0, u1, u2, u3⟩ := HG3.out.four
  clear hk3 hr3
  go_wp2_with fail
  clear o0 o1 o2 o3 u0 u1 u2 u3
  refine (rtake_bad gR (.pointer (some ⟨h, 0, none⟩)) A l.length c _ 0 w3 HR3.out).mono ?_
  rintro e w4 ⟨rfl, hr4, hk4⟩
  have HG4 := Lib.hid (HG3.out.keep hk4 hn9); have HZ4 := Lib.hid (HZ3.out.keep hk4 hn1); have HK4 := Lib.hid (HK3.out.trans hk4 (fun _ _ h => h))
  have HR4 := Lib.hid hr4
  have hl94 : G9 < w4.heap.size := HG4.out.lt
  have hgr4 : gR < w4.heap.size := by omega
  clear hk4 hr4
  go_wp2_with fail
  refine (rparts_bad gR (.pointer (some ⟨h, 0, none⟩)) A l.length c _ _ _ w4 HR4.out).mono ?_
  rintro e w9 ⟨rfl, hw9⟩
  obtain rfl : w4 = w9 := hw9.symm
  clear hw9
  obtain ⟨o0, o1, o2, o3, u0, u1, u2, u3⟩ := HG4.out.four
  obtain ⟨z0, z1, z2, z3, y0, y1, y2, y3⟩ := HZ4.out.four
  have hlw4 : w.heap.size < w4.heap.size := HZ4.out.lt
  go_wp2_with fail
  obtain ⟨r0, r1, r2, r3, _, _, _, _⟩ := (put4_blk (HZ4.out.far (p := ⟨G9, 3, none⟩) (by show w.heap.size ≠ G9; omega) (.slice none 0 0)) (.int .i64 7) (.int .i64 0) (.string ⟨#[]⟩) (.slice none 0 0)).four
  unfold put4 at r0 r1 r2 r3
  exact bodyPost_ret (v := .agg #[.int .i64 7, .int .i64 0, .string ⟨#[]⟩, .slice none 0 0]) (by simp [results, Try.results52, go_sem, r0, r1, r2, r3]) rfl (rrd_bad2 (HK4.out.setCell (p := ⟨G9, 3, none⟩) (.inr (by show w.heap.size ≤ G9; omega)) _) (Blk.far HR4.out (by show gR ≠ G9; omega) _) hgl none 0 0)
set_option maxRecDepth 100000 in
set_option maxHeartbeats 8000000 in
theorem rbox5_yes (gR h : Nat) (A : Option Addr) (l : List Int) (c q : Nat) (x : Int) (hx : U64 x) (hE : unE x = 0) (hk : unK x = 5) (hnq : unN x = (q : Int)) (hq : q ≤ l.length) (hl6 : l.length ≤ 65536) (hU : ∀ x ∈ l, U64 x) (hlc : l.length ≤ c) (x4 : Int) (hx4 : l[q]? = some x4) (he4 : unE x4 = 0) (hk4 : unK x4 = 11) (m : Nat) (hm4 : unN x4 = (m : Int)) (a b : Nat) (ha : (m : Int) / 128 = (a : Int)) (hb : (m : Int) % 128 = (b : Int)) (G : Nat → Prop) (Ts : List ByteArray) (hA64 : ∀ s ∈ Ts, s.size ≤ 64) (fuel : Nat) (hf : l.length < q + (fuel + 1)) (IH : ∀ x : Int, U64 x → ∀ q : Nat, q ≤ l.length → l.length < q + fuel → ∀ w, REnvR w gR h G Ts A l → RRdr w gR (.pointer (some ⟨h, 0, none⟩)) A l.length c (q : Int) false → Calls Try.prog 52 #[.pointer (some ⟨gR, 0, none⟩), .int .u64 x] w (RRdPost w gR (.pointer (some ⟨h, 0, none⟩)) A l c (rdT Ts l fuel x q))) (r : Option (Tm × Nat)) (hres : r = partsR (rdT Ts l fuel) 5 (a : Int) ((l.drop (q + 1)).take b) ((q + 1) + b)) (hmq : (q + 1) + b ≤ l.length) (w : World) (henv : REnvR w gR h G Ts A l) (hr : RRdr w gR (.pointer (some ⟨h, 0, none⟩)) A l.length c (q : Int) false) :
    Calls Try.prog 52 #[.pointer (some ⟨gR, 0, none⟩), .int .u64 x] w (RRdPost w gR (.pointer (some ⟨h, 0, none⟩)) A l c r) := by
  have HUN := Lib.hid (fun w => runpack_any x hx.1 hx.2 w)
  have HBO := Lib.hid (fun w => rboxed_any x hx.1 hx.2 w)
  have hbx : boxd x = true := by rw [boxd_eq hE, hk]; rfl
  rw [hk, hE] at HUN
  rw [hbx] at HBO
  rw [hnq] at HUN
  have HENV0 := Lib.hid henv
  have HR := Lib.hid hr
  have hgl : gR < w.heap.size := Blk.lt hr
  have hb0 := ballocs (Below.refl w.heap.size w) (.cells tz 24)
  have HZ := Lib.hid (Blk.new w 24 tz)
  have HR1 := Lib.hid (hr.below hb0)
  have HB0 := Lib.hid hb0
  clear hr hb0 hx hE hk hbx hnq henv
  go_enter Try.func52, Try.ntmps52
  go_wp2_with fail
  obtain ⟨w1, hw1⟩ : ∃ x, w.alloc (.cells #[.int .i64 0, .int .i64 0, .string ⟨#[]⟩, .slice none 0 0] 24) = x := ⟨_, rfl⟩
  rw [hw1] at HZ HR1 HB0 ⊢
  clear hw1
  refine (HUN.out w1).mono ?_
  rintro e w2 ⟨rfl, hw2⟩
  obtain rfl : w1 = w2 := hw2.symm
  clear hw2
  go_wp2_with fail
  refine (HBO.out w1).mono ?_
  rintro e w2 ⟨rfl, hw2⟩
  obtain rfl : w1 = w2 := hw2.symm
  clear hw2
  obtain ⟨d0, d1, d2, d3, f2, f3⟩ := HR1.out.four
  obtain ⟨z0, z1, z2, z3, y0, y1, y2, y3⟩ := HZ.out.four
  have hlz : w.heap.size < w1.heap.size := HZ.out.lt
  have hgl1 : gR < w1.heap.size := Blk.lt HR1.out
  have hne : gR ≠ w.heap.size := by omega
  go_wp2_with fail
  have hb2 := ballocs (Below.refl w1.heap.size w1) (.cells #[.int .i64 5, .int .i64 0, .string ⟨#[]⟩, .slice none 0 0] 24)
  have hg9 := Blk.new w1 24 #[.int .i64 5, .int .i64 0, .string ⟨#[]⟩, .slice none 0 0]
  obtain ⟨w2, hw2⟩ : ∃ x, w1.alloc (.cells #[.int .i64 5, .int .i64 0, .string ⟨#[]⟩, .slice none 0 0] 24) = x := ⟨_, rfl⟩
  rw [hw2] at hb2 hg9 ⊢
  clear hw2
  have hr2 := HR1.out.below hb2
  have hz2 := HZ.out.below hb2 HZ.out.lt
  have hk2 := Keep.new (F := fun b => b = gR) (fbelow HB0.out hb2)
  obtain ⟨G9, hG9⟩ : ∃ G9, w1.heap.size = G9 := ⟨_, rfl⟩
  rw [hG9] at hg9 hlz hgl1 ⊢
  have hn9 : G9 ≠ gR := by omega
  have hn91 : G9 ≠ w.heap.size := by omega
  have hn1 : ¬ (w.heap.size = gR) := fun e => hne e.symm
  have HR2 := Lib.hid hr2; have HZ2 := Lib.hid hz2; have HG2 := Lib.hid hg9; have HK2 := Lib.hid hk2
  clear hb2 hr2 hz2 hg9 hk2 hG9 d0 d1 d2 d3 f2 f3 z0 z1 z2 z3 y0 y1 y2 y3
  refine (rhead_any gR (.pointer (some ⟨h, 0, none⟩)) A l c q 11 w2 HR2.out (HENV0.out.keep HK2.out).2.2.1 hU hl6 hq).mono ?_
  rintro e w3 ⟨hk3, (⟨y4, hy4, _, _, rfl, hr3⟩ | ⟨hno4, rfl, q4, hr4⟩)⟩
  rotate_left
  · exact absurd ⟨he4, hk4⟩ (hno4 _ hx4)
  obtain rfl : x4 = y4 := by rw [hx4] at hy4; injection hy4
  obtain ⟨_, _, m1, m2, m3, _, _⟩ := un_facts he4
  rw [hk4] at m1 m2 m3
  have e1 : low 11 = 0 := rfl
  have e2 : high 11 = 137438953536 := rfl
  rw [hm4] at m1 m2 m3 ⊢
  rw [e1] at m1
  rw [e2] at m2
  have hm30 : m ≤ 137438953536 := by omega
  have hm64 : b ≤ 127 := by omega
  have hq1 : q < l.length := (List.getElem?_eq_some_iff.1 hx4).1
  have HG3 := Lib.hid (HG2.out.keep hk3 hn9); have HZ3 := Lib.hid (HZ2.out.keep hk3 hn1); have HK3 := Lib.hid (HK2.out.trans hk3 (fun _ _ h => h))
  have HR3 := Lib.hid hr3
  have hl93 : G9 < w3.heap.size := HG3.out.lt
  have hlw3 : w.heap.size < w3.heap.size := HZ3.out.lt
  have hgr3 : gR < w3.heap.size := by omega
  obtain ⟨o0, o1, o2, o3, u0, u1, u2, u3⟩ := HG3.out.four
  clear hk3 hr3 e1 e2 m1 m2 m3 hy4 hm4 he4 hk4 hx4
  go_wp2_with fail
  have HG4 := Lib.hid (show Blk (w3.setCell ⟨G9, 1, none⟩ (.int .i64 (a : Int))) G9 24 #[.int .i64 5, .int .i64 (a : Int), .string ⟨#[]⟩, .slice none 0 0] from by have := HG3.out.set_ 1 (.int .i64 (a : Int)); simpa using this)
  have HZ4 := Lib.hid (HZ3.out.far (p := ⟨G9, 1, none⟩) (by show w.heap.size ≠ G9; omega) (.int .i64 (a : Int)))
  have HR4 := Lib.hid (show RRdr (w3.setCell ⟨G9, 1, none⟩ (.int .i64 (a : Int))) gR (.pointer (some ⟨h, 0, none⟩)) A l.length c _ _ from Blk.far HR3.out (by show gR ≠ G9; omega) _)
  have HK4 := Lib.hid (HK3.out.setCell (p := ⟨G9, 1, none⟩) (.inr (by show w.heap.size ≤ G9; omega)) (.int .i64 (a : Int)))
  skip
  obtain ⟨w4, hw4⟩ : ∃ x, w3.setCell ⟨G9, 1, none⟩ (.int .i64 (a : Int)) = x := ⟨_, rfl⟩
  rw [hw4] at HG4 HZ4 HR4 HK4 ⊢
  clear hw4 o0 o1 o2 o3 u0 u1 u2 u3
  refine (rtake_ok gR (.pointer (some ⟨h, 0, none⟩)) A l.length c (q + 1) b w4 HR4.out hl6 hmq).mono ?_
  rintro e w5 ⟨rfl, hr5, hk5⟩
  have HG5 := Lib.hid (HG4.out.keep hk5 hn9); have HZ5 := Lib.hid (HZ4.out.keep hk5 hn1); have HK5 := Lib.hid (HK4.out.trans hk5 (fun _ _ h => h))
  have HR5 := Lib.hid hr5
  have hl95 : G9 < w5.heap.size := HG5.out.lt
  have hgr5 : gR < w5.heap.size := by omega
  clear hk5 hr5
  go_wp2_with fail
  refine (rparts_any gR (.pointer (some ⟨h, 0, none⟩)) A l c h G Ts hU hlc hl6 (rdT Ts l fuel) fuel (q + 1) b ((q + 1) + b) hmq hmq (fun h0 => by omega) (fun x q y hx hq hy => by
    have h := rdT_ok hA64 hU fuel x q y hx hq hy
    exact ⟨by rw [h.q_eq]; omega, h.len⟩) IH w5 (HENV0.out.keep HK5.out) HR5.out).mono ?_
  intro e w9 hp
  have HP := Lib.hid hp
  obtain ⟨A1, m1, c1, rfl, hk9, _⟩ := hp
  have HG9 := Lib.hid (HG5.out.keep hk9 hn9); have HZ9 := Lib.hid (HZ5.out.keep hk9 hn1); have HK9 := Lib.hid (HK5.out.trans hk9 (fun _ _ h => h))
  have hl99 : G9 < w9.heap.size := HG9.out.lt
  clear hk9
  obtain ⟨o0, o1, o2, o3, u0, u1, u2, u3⟩ := HG9.out.four
  obtain ⟨z0, z1, z2, z3, y0, y1, y2, y3⟩ := HZ9.out.four
  have hlw9 : w.heap.size < w9.heap.size := HZ9.out.lt
  go_wp2_with fail
  obtain ⟨r0, r1, r2, r3, _, _, _, _⟩ := (put4_blk (HZ9.out.far (p := ⟨G9, 3, none⟩) (by show w.heap.size ≠ G9; omega) (.slice A1 m1 c1)) (.int .i64 5) (.int .i64 (a : Int)) (.string ⟨#[]⟩) (.slice A1 m1 c1)).four
  unfold put4 at r0 r1 r2 r3
  exact bodyPost_ret (v := .agg #[.int .i64 5, .int .i64 (a : Int), .string ⟨#[]⟩, .slice A1 m1 c1]) (by simp [results, Try.results52, go_sem, r0, r1, r2, r3]) rfl (rrd_parts hgl hlz hl95 HK5.out (by decide) (WalkArith.wf_i64 (by omega)) HP.out (by rw [hres]; rfl))
set_option maxRecDepth 100000 in
set_option maxHeartbeats 8000000 in
theorem rbox5_no (gR h : Nat) (A : Option Addr) (l : List Int) (c q : Nat) (x : Int) (hx : U64 x) (hE : unE x = 0) (hk : unK x = 5) (hnq : unN x = (q : Int)) (hq : q ≤ l.length) (hl6 : l.length ≤ 65536) (hU : ∀ x ∈ l, U64 x) (hlc : l.length ≤ c) (x4 : Int) (hx4 : l[q]? = some x4) (he4 : unE x4 = 0) (hk4 : unK x4 = 11) (m : Nat) (hm4 : unN x4 = (m : Int)) (a b : Nat) (ha : (m : Int) / 128 = (a : Int)) (hb : (m : Int) % 128 = (b : Int)) (G : Nat → Prop) (Ts : List ByteArray) (hmq : l.length < (q + 1) + b) (w : World) (henv : REnvR w gR h G Ts A l) (hr : RRdr w gR (.pointer (some ⟨h, 0, none⟩)) A l.length c (q : Int) false) :
    Calls Try.prog 52 #[.pointer (some ⟨gR, 0, none⟩), .int .u64 x] w (RRdPost w gR (.pointer (some ⟨h, 0, none⟩)) A l c none) := by
  have HUN := Lib.hid (fun w => runpack_any x hx.1 hx.2 w)
  have HBO := Lib.hid (fun w => rboxed_any x hx.1 hx.2 w)
  have hbx : boxd x = true := by rw [boxd_eq hE, hk]; rfl
  rw [hk, hE] at HUN
  rw [hbx] at HBO
  rw [hnq] at HUN
  have HENV0 := Lib.hid henv
  have HR := Lib.hid hr
  have hgl : gR < w.heap.size := Blk.lt hr
  have hb0 := ballocs (Below.refl w.heap.size w) (.cells tz 24)
  have HZ := Lib.hid (Blk.new w 24 tz)
  have HR1 := Lib.hid (hr.below hb0)
  have HB0 := Lib.hid hb0
  clear hr hb0 hx hE hk hbx hnq henv
  go_enter Try.func52, Try.ntmps52
  go_wp2_with fail
  obtain ⟨w1, hw1⟩ : ∃ x, w.alloc (.cells #[.int .i64 0, .int .i64 0, .string ⟨#[]⟩, .slice none 0 0] 24) = x := ⟨_, rfl⟩
  rw [hw1] at HZ HR1 HB0 ⊢
  clear hw1
  refine (HUN.out w1).mono ?_
  rintro e w2 ⟨rfl, hw2⟩
  obtain rfl : w1 = w2 := hw2.symm
  clear hw2
  go_wp2_with fail
  refine (HBO.out w1).mono ?_
  rintro e w2 ⟨rfl, hw2⟩
  obtain rfl : w1 = w2 := hw2.symm
  clear hw2
  obtain ⟨d0, d1, d2, d3, f2, f3⟩ := HR1.out.four
  obtain ⟨z0, z1, z2, z3, y0, y1, y2, y3⟩ := HZ.out.four
  have hlz : w.heap.size < w1.heap.size := HZ.out.lt
  have hgl1 : gR < w1.heap.size := Blk.lt HR1.out
  have hne : gR ≠ w.heap.size := by omega
  go_wp2_with fail
  have hb2 := ballocs (Below.refl w1.heap.size w1) (.cells #[.int .i64 5, .int .i64 0, .string ⟨#[]⟩, .slice none 0 0] 24)
  have hg9 := Blk.new w1 24 #[.int .i64 5, .int .i64 0, .string ⟨#[]⟩, .slice none 0 0]
  obtain ⟨w2, hw2⟩ : ∃ x, w1.alloc (.cells #[.int .i64 5, .int .i64 0, .string ⟨#[]⟩, .slice none 0 0] 24) = x := ⟨_, rfl⟩
  rw [hw2] at hb2 hg9 ⊢
  clear hw2
  have hr2 := HR1.out.below hb2
  have hz2 := HZ.out.below hb2 HZ.out.lt
  have hk2 := Keep.new (F := fun b => b = gR) (fbelow HB0.out hb2)
  obtain ⟨G9, hG9⟩ : ∃ G9, w1.heap.size = G9 := ⟨_, rfl⟩
  rw [hG9] at hg9 hlz hgl1 ⊢
  have hn9 : G9 ≠ gR := by omega
  have hn91 : G9 ≠ w.heap.size := by omega
  have hn1 : ¬ (w.heap.size = gR) := fun e => hne e.symm
  have HR2 := Lib.hid hr2; have HZ2 := Lib.hid hz2; have HG2 := Lib.hid hg9; have HK2 := Lib.hid hk2
  clear hb2 hr2 hz2 hg9 hk2 hG9 d0 d1 d2 d3 f2 f3 z0 z1 z2 z3 y0 y1 y2 y3
  refine (rhead_any gR (.pointer (some ⟨h, 0, none⟩)) A l c q 11 w2 HR2.out (HENV0.out.keep HK2.out).2.2.1 hU hl6 hq).mono ?_
  rintro e w3 ⟨hk3, (⟨y4, hy4, _, _, rfl, hr3⟩ | ⟨hno4, rfl, q4, hr4⟩)⟩
  rotate_left
  · exact absurd ⟨he4, hk4⟩ (hno4 _ hx4)
  obtain rfl : x4 = y4 := by rw [hx4] at hy4; injection hy4
  obtain ⟨_, _, m1, m2, m3, _, _⟩ := un_facts he4
  rw [hk4] at m1 m2 m3
  have e1 : low 11 = 0 := rfl
  have e2 : high 11 = 137438953536 := rfl
  rw [hm4] at m1 m2 m3 ⊢
  rw [e1] at m1
  rw [e2] at m2
  have hm30 : m ≤ 137438953536 := by omega
  have hm64 : b ≤ 127 := by omega
  have hq1 : q < l.length := (List.getElem?_eq_some_iff.1 hx4).1
  have HG3 := Lib.hid (HG2.out.keep hk3 hn9); have HZ3 := Lib.hid (HZ2.out.keep hk3 hn1); have HK3 := Lib.hid (HK2.out.trans hk3 (fun _ _ h => h))
  have HR3 := Lib.hid hr3
  have hl93 : G9 < w3.heap.size := HG3.out.lt
  have hlw3 : w.heap.size < w3.heap.size := HZ3.out.lt
  have hgr3 : gR < w3.heap.size := by omega
  obtain ⟨o0, o1, o2, o3, u0, u1, u2, u3⟩ := HG3.out.four
  clear hk3 hr3 e1 e2 m1 m2 m3 hy4 hm4 he4 hk4 hx4
  go_wp2_with fail
  have HG4 := Lib.hid (show Blk (w3.setCell ⟨G9, 1, none⟩ (.int .i64 (a : Int))) G9 24 #[.int .i64 5, .int .i64 (a : Int), .string ⟨#[]⟩, .slice none 0 0] from by have := HG3.out.set_ 1 (.int .i64 (a : Int)); simpa using this)
  have HZ4 := Lib.hid (HZ3.out.far (p := ⟨G9, 1, none⟩) (by show w.heap.size ≠ G9; omega) (.int .i64 (a : Int)))
  have HR4 := Lib.hid (show RRdr (w3.setCell ⟨G9, 1, none⟩ (.int .i64 (a : Int))) gR (.pointer (some ⟨h, 0, none⟩)) A l.length c _ _ from Blk.far HR3.out (by show gR ≠ G9; omega) _)
  have HK4 := Lib.hid (HK3.out.setCell (p := ⟨G9, 1, none⟩) (.inr (by show w.heap.size ≤ G9; omega)) (.int .i64 (a : Int)))
  skip
  obtain ⟨w4, hw4⟩ : ∃ x, w3.setCell ⟨G9, 1, none⟩ (.int .i64 (a : Int)) = x := ⟨_, rfl⟩
  rw [hw4] at HG4 HZ4 HR4 HK4 ⊢
  clear hw4 o0 o1 o2 o3 u0 u1 u2 u3
  refine (rtake_no gR (.pointer (some ⟨h, 0, none⟩)) A l.length c (q + 1) b w4 HR4.out hl6 (by omega) (by omega) hmq).mono ?_
  rintro e w5 ⟨rfl, hr5, hk5⟩
  have HG5 := Lib.hid (HG4.out.keep hk5 hn9); have HZ5 := Lib.hid (HZ4.out.keep hk5 hn1); have HK5 := Lib.hid (HK4.out.trans hk5 (fun _ _ h => h))
  have HR5 := Lib.hid hr5
  have hl95 : G9 < w5.heap.size := HG5.out.lt
  have hgr5 : gR < w5.heap.size := by omega
  clear hk5 hr5
  go_wp2_with fail
  refine (rparts_bad gR (.pointer (some ⟨h, 0, none⟩)) A l.length c _ _ _ w5 HR5.out).mono ?_
  rintro e w9 ⟨rfl, hw9⟩
  obtain rfl : w5 = w9 := hw9.symm
  clear hw9
  obtain ⟨o0, o1, o2, o3, u0, u1, u2, u3⟩ := HG5.out.four
  obtain ⟨z0, z1, z2, z3, y0, y1, y2, y3⟩ := HZ5.out.four
  have hlw5 : w.heap.size < w5.heap.size := HZ5.out.lt
  go_wp2_with fail
  obtain ⟨r0, r1, r2, r3, _, _, _, _⟩ := (put4_blk (HZ5.out.far (p := ⟨G9, 3, none⟩) (by show w.heap.size ≠ G9; omega) (.slice none 0 0)) (.int .i64 5) (.int .i64 (a : Int)) (.string ⟨#[]⟩) (.slice none 0 0)).four
  unfold put4 at r0 r1 r2 r3
  exact bodyPost_ret (v := .agg #[.int .i64 5, .int .i64 (a : Int), .string ⟨#[]⟩, .slice none 0 0]) (by simp [results, Try.results52, go_sem, r0, r1, r2, r3]) rfl (rrd_bad2 (HK5.out.setCell (p := ⟨G9, 3, none⟩) (.inr (by show w.heap.size ≤ G9; omega)) _) (Blk.far HR5.out (by show gR ≠ G9; omega) _) hgl none 0 0)
set_option maxRecDepth 100000 in
set_option maxHeartbeats 8000000 in
theorem rbox5_nohead (gR h : Nat) (A : Option Addr) (l : List Int) (c q : Nat) (x : Int) (hx : U64 x) (hE : unE x = 0) (hk : unK x = 5) (hnq : unN x = (q : Int)) (hq : q ≤ l.length) (hl6 : l.length ≤ 65536) (hU : ∀ x ∈ l, U64 x) (hlc : l.length ≤ c) (hno : ∀ y, l[q]? = some y → ¬ (unE y = 0 ∧ unK y = 11)) (G : Nat → Prop) (Ts : List ByteArray) (w : World) (henv : REnvR w gR h G Ts A l) (hr : RRdr w gR (.pointer (some ⟨h, 0, none⟩)) A l.length c (q : Int) false) :
    Calls Try.prog 52 #[.pointer (some ⟨gR, 0, none⟩), .int .u64 x] w (RRdPost w gR (.pointer (some ⟨h, 0, none⟩)) A l c none) := by
  have HUN := Lib.hid (fun w => runpack_any x hx.1 hx.2 w)
  have HBO := Lib.hid (fun w => rboxed_any x hx.1 hx.2 w)
  have hbx : boxd x = true := by rw [boxd_eq hE, hk]; rfl
  rw [hk, hE] at HUN
  rw [hbx] at HBO
  rw [hnq] at HUN
  have HENV0 := Lib.hid henv
  have HR := Lib.hid hr
  have hgl : gR < w.heap.size := Blk.lt hr
  have hb0 := ballocs (Below.refl w.heap.size w) (.cells tz 24)
  have HZ := Lib.hid (Blk.new w 24 tz)
  have HR1 := Lib.hid (hr.below hb0)
  have HB0 := Lib.hid hb0
  clear hr hb0 hx hE hk hbx hnq henv
  go_enter Try.func52, Try.ntmps52
  go_wp2_with fail
  obtain ⟨w1, hw1⟩ : ∃ x, w.alloc (.cells #[.int .i64 0, .int .i64 0, .string ⟨#[]⟩, .slice none 0 0] 24) = x := ⟨_, rfl⟩
  rw [hw1] at HZ HR1 HB0 ⊢
  clear hw1
  refine (HUN.out w1).mono ?_
  rintro e w2 ⟨rfl, hw2⟩
  obtain rfl : w1 = w2 := hw2.symm
  clear hw2
  go_wp2_with fail
  refine (HBO.out w1).mono ?_
  rintro e w2 ⟨rfl, hw2⟩
  obtain rfl : w1 = w2 := hw2.symm
  clear hw2
  obtain ⟨d0, d1, d2, d3, f2, f3⟩ := HR1.out.four
  obtain ⟨z0, z1, z2, z3, y0, y1, y2, y3⟩ := HZ.out.four
  have hlz : w.heap.size < w1.heap.size := HZ.out.lt
  have hgl1 : gR < w1.heap.size := Blk.lt HR1.out
  have hne : gR ≠ w.heap.size := by omega
  go_wp2_with fail
  have hb2 := ballocs (Below.refl w1.heap.size w1) (.cells #[.int .i64 5, .int .i64 0, .string ⟨#[]⟩, .slice none 0 0] 24)
  have hg9 := Blk.new w1 24 #[.int .i64 5, .int .i64 0, .string ⟨#[]⟩, .slice none 0 0]
  obtain ⟨w2, hw2⟩ : ∃ x, w1.alloc (.cells #[.int .i64 5, .int .i64 0, .string ⟨#[]⟩, .slice none 0 0] 24) = x := ⟨_, rfl⟩
  rw [hw2] at hb2 hg9 ⊢
  clear hw2
  have hr2 := HR1.out.below hb2
  have hz2 := HZ.out.below hb2 HZ.out.lt
  have hk2 := Keep.new (F := fun b => b = gR) (fbelow HB0.out hb2)
  obtain ⟨G9, hG9⟩ : ∃ G9, w1.heap.size = G9 := ⟨_, rfl⟩
  rw [hG9] at hg9 hlz hgl1 ⊢
  have hn9 : G9 ≠ gR := by omega
  have hn91 : G9 ≠ w.heap.size := by omega
  have hn1 : ¬ (w.heap.size = gR) := fun e => hne e.symm
  have HR2 := Lib.hid hr2; have HZ2 := Lib.hid hz2; have HG2 := Lib.hid hg9; have HK2 := Lib.hid hk2
  clear hb2 hr2 hz2 hg9 hk2 hG9 d0 d1 d2 d3 f2 f3 z0 z1 z2 z3 y0 y1 y2 y3
  refine (rhead_any gR (.pointer (some ⟨h, 0, none⟩)) A l c q 11 w2 HR2.out (HENV0.out.keep HK2.out).2.2.1 hU hl6 hq).mono ?_
  rintro e w3 ⟨hk3, (⟨y4, hy4, hye, hyk, rfl, hr3⟩ | ⟨_, rfl, q3, hr3⟩)⟩
  · exact absurd ⟨hye, hyk⟩ (hno _ hy4)
  have HG3 := Lib.hid (HG2.out.keep hk3 hn9); have HZ3 := Lib.hid (HZ2.out.keep hk3 hn1); have HK3 := Lib.hid (HK2.out.trans hk3 (fun _ _ h => h))
  have HR3 := Lib.hid hr3
  have hl93 : G9 < w3.heap.size := HG3.out.lt
  have hlw3 : w.heap.size < w3.heap.size := HZ3.out.lt
  have hgr3 : gR < w3.heap.size := by omega
  obtain ⟨o0, o1, o2, o3, u0, u1, u2, u3⟩ := HG3.out.four
  clear hk3 hr3
  go_wp2_with fail
  have HG4 := Lib.hid (show Blk (w3.setCell ⟨G9, 1, none⟩ (.int .i64 0)) G9 24 #[.int .i64 5, .int .i64 0, .string ⟨#[]⟩, .slice none 0 0] from by have := HG3.out.set_ 1 (.int .i64 0); simpa using this)
  have HZ4 := Lib.hid (HZ3.out.far (p := ⟨G9, 1, none⟩) (by show w.heap.size ≠ G9; omega) (.int .i64 0))
  have HR4 := Lib.hid (show RRdr (w3.setCell ⟨G9, 1, none⟩ (.int .i64 0)) gR (.pointer (some ⟨h, 0, none⟩)) A l.length c _ _ from Blk.far HR3.out (by show gR ≠ G9; omega) _)
  have HK4 := Lib.hid (HK3.out.setCell (p := ⟨G9, 1, none⟩) (.inr (by show w.heap.size ≤ G9; omega)) (.int .i64 0))
  skip
  obtain ⟨w4, hw4⟩ : ∃ x, w3.setCell ⟨G9, 1, none⟩ (.int .i64 0) = x := ⟨_, rfl⟩
  rw [hw4] at HG4 HZ4 HR4 HK4 ⊢
  clear hw4 o0 o1 o2 o3 u0 u1 u2 u3
  refine (rtake_bad gR (.pointer (some ⟨h, 0, none⟩)) A l.length c _ 0 w4 HR4.out).mono ?_
  rintro e w5 ⟨rfl, hr5, hk5⟩
  have HG5 := Lib.hid (HG4.out.keep hk5 hn9); have HZ5 := Lib.hid (HZ4.out.keep hk5 hn1); have HK5 := Lib.hid (HK4.out.trans hk5 (fun _ _ h => h))
  have HR5 := Lib.hid hr5
  have hl95 : G9 < w5.heap.size := HG5.out.lt
  have hgr5 : gR < w5.heap.size := by omega
  clear hk5 hr5
  go_wp2_with fail
  refine (rparts_bad gR (.pointer (some ⟨h, 0, none⟩)) A l.length c _ _ _ w5 HR5.out).mono ?_
  rintro e w9 ⟨rfl, hw9⟩
  obtain rfl : w5 = w9 := hw9.symm
  clear hw9
  obtain ⟨o0, o1, o2, o3, u0, u1, u2, u3⟩ := HG5.out.four
  obtain ⟨z0, z1, z2, z3, y0, y1, y2, y3⟩ := HZ5.out.four
  have hlw5 : w.heap.size < w5.heap.size := HZ5.out.lt
  go_wp2_with fail
  obtain ⟨r0, r1, r2, r3, _, _, _, _⟩ := (put4_blk (HZ5.out.far (p := ⟨G9, 3, none⟩) (by show w.heap.size ≠ G9; omega) (.slice none 0 0)) (.int .i64 5) (.int .i64 0) (.string ⟨#[]⟩) (.slice none 0 0)).four
  unfold put4 at r0 r1 r2 r3
  exact bodyPost_ret (v := .agg #[.int .i64 5, .int .i64 0, .string ⟨#[]⟩, .slice none 0 0]) (by simp [results, Try.results52, go_sem, r0, r1, r2, r3]) rfl (rrd_bad2 (HK5.out.setCell (p := ⟨G9, 3, none⟩) (.inr (by show w.heap.size ≤ G9; omega)) _) (Blk.far HR5.out (by show gR ≠ G9; omega) _) hgl none 0 0)
end Go.Proofs.Ytfcialleekfjmaa.Fl
