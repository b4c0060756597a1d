/- flat.reader's term, by a contract: boxed words whose parts cannot be taken. (Printed by mk_fterm3.py.) -/
import Derived.Test.YtfcialleekfjmaaFlTerm2
namespace Go.Proofs.Ytfcialleekfjmaa.Fl
open Go.RowKit K At Wd
set_option linter.unusedVariables false
set_option linter.unusedSimpArgs false

theorem rd_bad2 {w w5 : World} {gR : Nat} {p : Value} {A : Option Addr} {l : List Int} {c : Nat} {q : Int} {k n : Int} {s : ByteArray} {A1 : Option Addr} {m1 c1 : Nat} (hk : Keep (fun b => b = gR) w w5) (hr : Rdr w5 gR p A l.length c q true) (hg : gR < w.heap.size) :
    RdPost w gR p A l c none (.returned (.agg #[.int .i64 k, .int .i64 n, .string s, .slice A1 m1 c1])) (put4 w5 w.heap.size (.int .i64 k) (.int .i64 n) (.string s) (.slice A1 m1 c1)) := by
  have hne : gR ≠ w.heap.size := by omega
  exact ⟨((((hk.setCell (p := ⟨w.heap.size, 0, none⟩) (.inr (Nat.le_refl _)) _).setCell (p := ⟨w.heap.size, 1, none⟩) (.inr (Nat.le_refl _)) _).setCell (p := ⟨w.heap.size, 2, none⟩) (.inr (Nat.le_refl _)) _).setCell (p := ⟨w.heap.size, 3, none⟩) (.inr (Nat.le_refl _)) _),
    ⟨k, n, s, A1, m1, c1, rfl⟩, q, (((Blk.far hr hne _).far hne _).far hne _).far hne _⟩
/-- A boxed function's number is stored. -/
theorem store8 {w w4 : World} {gR G8 : Nat} {p : Value} {A : Option Addr} {n c : Nat} {q : Int} {bd : Bool} {t t' : TypeId} {x0 x1 x2 x3 v : Value} {zs : Array Value} (hg : Blk w4 G8 t #[x0, x1, x2, x3]) (hz : Blk w4 w.heap.size t' zs) (hr : Rdr w4 gR p A n c q bd) (hk : Keep (fun b => b = gR) w w4) (h8 : G8 ≠ gR) (h81 : w.heap.size < G8) :
    Blk (w4.setCell ⟨G8, 1, none⟩ v) G8 t #[x0, v, x2, x3] ∧ Blk (w4.setCell ⟨G8, 1, none⟩ v) w.heap.size t' zs ∧ Rdr (w4.setCell ⟨G8, 1, none⟩ v) gR p A n c q bd ∧ Keep (fun b => b = gR) w (w4.setCell ⟨G8, 1, none⟩ v) :=
  ⟨by have := hg.set_ 1 v; simpa using this, hz.far (by show w.heap.size ≠ G8; omega) _, Blk.far hr (fun e => h8 e.symm) _, hk.setCell (p := ⟨G8, 1, none⟩) (.inr (by show w.heap.size ≤ G8; omega)) _⟩
set_option maxRecDepth 100000 in
set_option maxHeartbeats 8000000 in
theorem box9_no (gR : Nat) (p : Value) (A : Option Addr) (l : List Int) (c q : Nat) (x : Int) (hx : U64 x) (hk : unK x = 9) (hn : unN x = (q : Int)) (hy : unE x = 0) (hq : q ≤ l.length) (hl6 : l.length ≤ 65536) (hm : l.length < q + 2) (w : World) (h : Rdr w gR p A l.length c q false) :
    Calls Try.prog 41 #[.pointer (some ⟨gR, 0, none⟩), .int .u64 x] w (RdPost w gR p A l c none) := by
  have HUN := Lib.hid (show ∀ w : World, Calls Try.prog 59 #[.int .u64 x] w (fun e w' => e = .returned (.tuple #[.int .i64 9, .int .i64 (q : Int), .int .i64 0]) ∧ Below w.heap.size w w') from fun w => by
    have h := unpack_any x hx.1 hx.2 w
    rw [hk, hn, hy] at h
    exact h)
  have H := Lib.hid h
  have hgl : gR < w.heap.size := Blk.lt H.out
  have hz := Blk.new w 24 #[.int .i64 0, .int .i64 0, .string ⟨#[]⟩, .slice none 0 0]
  have hb0 := ballocs (Below.refl w.heap.size w) (.cells #[.int .i64 0, .int .i64 0, .string ⟨#[]⟩, .slice none 0 0] 24)
  have HZ := Lib.hid hz; have HB0 := Lib.hid hb0
  clear hz hb0 h hx hk hn hy 
  go_enter Try.func41, Try.ntmps41
  go_wp2_with fail
  obtain ⟨w1, hw1⟩ : ∃ x, w.alloc (.cells #[.int .i64 0, .int .i64 0, .string ⟨#[]⟩, .slice none 0 0] 24) = x := ⟨_, rfl⟩
  rw [hw1] at HZ HB0 ⊢
  clear hw1
  refine (HUN.out w1).mono ?_
  rintro e w2 ⟨rfl, hb2⟩
  have hr2 := (H.out.below HB0.out).below hb2
  have hz2 := HZ.out.below hb2 HZ.out.lt
  have hlt2 : gR < w2.heap.size := Blk.lt hr2
  have hlz2 : w.heap.size < w2.heap.size := hz2.lt
  obtain ⟨d0, d1, d2, d3, f2, f3⟩ := hr2.four
  have hb02 := fbelow HB0.out hb2
  have hne : gR ≠ w.heap.size := by omega
  have HB02 := Lib.hid hb02; have HR2 := Lib.hid hr2; have HZ2 := Lib.hid hz2
  clear hb2 hr2 hz2 hb02
  go_wp2_with fail
  have hb3 := ballocs (Below.refl w2.heap.size w2) (.cells #[.int .i64 9, .int .i64 0, .string ⟨#[]⟩, .slice none 0 0] 24)
  have hg8 := Blk.new w2 24 #[.int .i64 9, .int .i64 0, .string ⟨#[]⟩, .slice none 0 0]
  obtain ⟨w3, hw3⟩ : ∃ x, w2.alloc (.cells #[.int .i64 9, .int .i64 0, .string ⟨#[]⟩, .slice none 0 0] 24) = x := ⟨_, rfl⟩
  rw [hw3] at hb3 hg8 ⊢
  clear hw3
  have hr3 := HR2.out.below hb3
  have hz3 := HZ2.out.below hb3 HZ2.out.lt
  have hb03 := fbelow HB02.out hb3
  obtain ⟨G8, hG8⟩ : ∃ G8, w2.heap.size = G8 := ⟨_, rfl⟩
  rw [hG8] at hg8 hlt2 hlz2 ⊢
  have hn8 : G8 ≠ gR := by omega
  have hn81 : G8 ≠ w.heap.size := by omega
  have hn1 : ¬ (w.heap.size = gR) := fun e => hne e.symm
  have HR3 := Lib.hid hr3; have HZ3 := Lib.hid hz3; have HB03 := Lib.hid hb03; have HG8 := Lib.hid hg8
  clear hr3 hz3 hb03 hb3 hg8 hG8 d0 d1 d2 d3 f2 f3
  refine (take_no gR p A l.length c q 2 w3 HR3.out hl6 hq (by omega) hm).mono ?_
  rintro e w5 ⟨rfl, hr5, hk5⟩
  have hg5 := HG8.out.keep hk5 hn8
  have hz5 := HZ3.out.keep hk5 hn1
  obtain ⟨o0, o1, o2, o3, _, _, _, _⟩ := hg5.four
  obtain ⟨z0, z1, z2, z3, y0, y1, y2, y3⟩ := hz5.four
  have HZ5 := Lib.hid hz5
  have HK5 := Lib.hid ((Keep.new (F := fun b => b = gR) HB03.out).trans hk5 (fun _ _ h => h)); have HR5 := Lib.hid hr5
  clear hg5 hz5 hk5 hr5
  go_wp2_with fail
  go_loopw [100] (fun x wr => x = .int .i64 0 ∧ wr = w5) (fun x _ => 0)
  case atStart => exact ⟨rfl, rfl⟩
  case round =>
    obtain ⟨rfl, rfl⟩ := hrel
    go_wp2_with fail
    obtain ⟨r0, r1, r2, r3, _, _, _, _⟩ := (put4_blk HZ5.out (.int .i64 9) (.int .i64 0) (.string ⟨#[]⟩) (.slice none 0 0)).four
    unfold put4 at r0 r1 r2 r3
    refine bodyPost_ret (v := .agg #[.int .i64 9, .int .i64 0, .string ⟨#[]⟩, .slice none 0 0]) (by simp [results, Try.results41, go_sem, r0, r1, r2, r3]) rfl ?_
    exact rd_bad2 HK5.out HR5.out hgl
set_option maxRecDepth 100000 in
set_option maxHeartbeats 8000000 in
theorem box7_no (gR : Nat) (p : Value) (A : Option Addr) (l : List Int) (c q : Nat) (x : Int) (hx : U64 x) (hk : unK x = 7) (hn : unN x = (q : Int)) (hy : unE x = 0) (hq : q ≤ l.length) (hl6 : l.length ≤ 65536) (hU : ∀ x ∈ l, U64 x) (hlc : l.length ≤ c) (hA : A = none → c = 0) (g : Nat) (F : Nat → Prop) (Ts : List ByteArray) (hno : ∀ h, hdR l 7 q = some h → l.length < h.2.2 + h.2.1) (w : World) (henv : REnv w gR g F Ts A l) (h : Rdr w gR p A l.length c q false) :
    Calls Try.prog 41 #[.pointer (some ⟨gR, 0, none⟩), .int .u64 x] w (RdPost w gR p A l c none) := by
  have HUN := Lib.hid (show ∀ w : World, Calls Try.prog 59 #[.int .u64 x] w (fun e w' => e = .returned (.tuple #[.int .i64 7, .int .i64 (q : Int), .int .i64 0]) ∧ Below w.heap.size w w') from fun w => by
    have h := unpack_any x hx.1 hx.2 w
    rw [hk, hn, hy] at h
    exact h)
  have H := Lib.hid h
  have hgl : gR < w.heap.size := Blk.lt H.out
  have hz := Blk.new w 24 #[.int .i64 0, .int .i64 0, .string ⟨#[]⟩, .slice none 0 0]
  have hb0 := ballocs (Below.refl w.heap.size w) (.cells #[.int .i64 0, .int .i64 0, .string ⟨#[]⟩, .slice none 0 0] 24)
  have HZ := Lib.hid hz; have HB0 := Lib.hid hb0
  clear hz hb0 h hx hk hn hy 
  go_enter Try.func41, Try.ntmps41
  go_wp2_with fail
  obtain ⟨w1, hw1⟩ : ∃ x, w.alloc (.cells #[.int .i64 0, .int .i64 0, .string ⟨#[]⟩, .slice none 0 0] 24) = x := ⟨_, rfl⟩
  rw [hw1] at HZ HB0 ⊢
  clear hw1
  refine (HUN.out w1).mono ?_
  rintro e w2 ⟨rfl, hb2⟩
  have hr2 := (H.out.below HB0.out).below hb2
  have hz2 := HZ.out.below hb2 HZ.out.lt
  have hlt2 : gR < w2.heap.size := Blk.lt hr2
  have hlz2 : w.heap.size < w2.heap.size := hz2.lt
  obtain ⟨d0, d1, d2, d3, f2, f3⟩ := hr2.four
  have hb02 := fbelow HB0.out hb2
  have hne : gR ≠ w.heap.size := by omega
  have HB02 := Lib.hid hb02; have HR2 := Lib.hid hr2; have HZ2 := Lib.hid hz2
  clear hb2 hr2 hz2 hb02
  go_wp2_with fail
  have hb3 := ballocs (Below.refl w2.heap.size w2) (.cells #[.int .i64 7, .int .i64 0, .string ⟨#[]⟩, .slice none 0 0] 24)
  have hg8 := Blk.new w2 24 #[.int .i64 7, .int .i64 0, .string ⟨#[]⟩, .slice none 0 0]
  obtain ⟨w3, hw3⟩ : ∃ x, w2.alloc (.cells #[.int .i64 7, .int .i64 0, .string ⟨#[]⟩, .slice none 0 0] 24) = x := ⟨_, rfl⟩
  rw [hw3] at hb3 hg8 ⊢
  clear hw3
  have hr3 := HR2.out.below hb3
  have hz3 := HZ2.out.below hb3 HZ2.out.lt
  have hb03 := fbelow HB02.out hb3
  obtain ⟨G8, hG8⟩ : ∃ G8, w2.heap.size = G8 := ⟨_, rfl⟩
  rw [hG8] at hg8 hlt2 hlz2 ⊢
  have hn8 : G8 ≠ gR := by omega
  have hn81 : G8 ≠ w.heap.size := by omega
  have hn1 : ¬ (w.heap.size = gR) := fun e => hne e.symm
  have HR3 := Lib.hid hr3; have HZ3 := Lib.hid hz3; have HB03 := Lib.hid hb03; have HG8 := Lib.hid hg8
  clear hr3 hz3 hb03 hb3 hg8 hG8 d0 d1 d2 d3 f2 f3
  have hl3 := (henv.keep (Keep.new (F := fun b => b = gR) HB03.out)).2.2.1
  refine (head_any gR p A l c q 10 (by decide) w3 HR3.out hl3 hU hlc hA hl6 hq).mono ?_
  rintro e w4 ⟨hk4, (⟨x4, hx4, he4, hku4, rfl, hr4⟩ | ⟨hno4, rfl, q4, hr4⟩)⟩
  · obtain ⟨_, _, n1, n2, n3, _, _⟩ := un_facts he4
    rw [hku4] at n1 n2 n3
    have e1 : low 10 = 0 := rfl
    have e2 : high 10 = 64 := rfl
    obtain ⟨m, hm⟩ : ∃ m : Nat, unN x4 = (m : Int) := ⟨(unN x4).toNat, by omega⟩
    rw [hm] at n1 n2 n3 ⊢
    rw [e1] at n1
    rw [e2] at n2
    have hh := hno (0, m, q + 1) (by unfold hdR; rw [if_neg (by decide), hx4]; simp only; rw [if_pos ⟨he4, by rw [hku4]; rfl⟩, hm]; rfl)
    simp only at hh
    have hg4 := HG8.out.keep hk4 hn8
    have hz4 := HZ3.out.keep hk4 hn1
    have HK4 := Lib.hid (((Keep.new (F := fun b => b = gR) HB03.out)).trans hk4 (fun _ _ h => h))
    have HG4 := Lib.hid hg4; have HZ4 := Lib.hid hz4; have HR4 := Lib.hid hr4
    obtain ⟨o0, o1, o2, o3, u0, u1, u2, u3⟩ := hg4.four
    have hlt4 : gR < w4.heap.size := Blk.lt hr4
    have h84 : G8 < w4.heap.size := hg4.lt
    clear hg4 hz4 hr4 hk4 hno hU hl3 e1 e2
    go_wp2_with fail
    refine (take_no gR p A l.length c (q + 1) m w4 HR4.out hl6 (by have := (List.getElem?_eq_some_iff.1 hx4).1; omega) (by omega) hh).mono ?_
    rintro e w5 ⟨rfl, hr5, hk5⟩
    have hg5 := HG4.out.keep hk5 hn8
    have hz5 := HZ4.out.keep hk5 hn1
    obtain ⟨o0, o1, o2, o3, _, _, _, _⟩ := hg5.four
    obtain ⟨z0, z1, z2, z3, y0, y1, y2, y3⟩ := hz5.four
    have HZ5 := Lib.hid hz5
    have HK5 := Lib.hid (HK4.out.trans hk5 (fun _ _ h => h)); have HR5 := Lib.hid hr5
    clear hg5 hz5 hk5 hr5
    go_wp2_with fail
    go_loopw [100] (fun x wr => x = .int .i64 0 ∧ wr = w5) (fun x _ => 0)
    case atStart => exact ⟨rfl, rfl⟩
    case round =>
      obtain ⟨rfl, rfl⟩ := hrel
      go_wp2_with fail
      obtain ⟨r0, r1, r2, r3, _, _, _, _⟩ := (put4_blk HZ5.out (.int .i64 7) (.int .i64 0) (.string ⟨#[]⟩) (.slice none 0 0)).four
      unfold put4 at r0 r1 r2 r3
      refine bodyPost_ret (v := .agg #[.int .i64 7, .int .i64 0, .string ⟨#[]⟩, .slice none 0 0]) (by simp [results, Try.results41, go_sem, r0, r1, r2, r3]) rfl ?_
      exact rd_bad2 HK5.out HR5.out hgl
  · have hg4 := HG8.out.keep hk4 hn8
    have hz4 := HZ3.out.keep hk4 hn1
    have HK4 := Lib.hid (((Keep.new (F := fun b => b = gR) HB03.out)).trans hk4 (fun _ _ h => h))
    have HG4 := Lib.hid hg4; have HZ4 := Lib.hid hz4; have HR4 := Lib.hid hr4
    obtain ⟨o0, o1, o2, o3, u0, u1, u2, u3⟩ := hg4.four
    have hlt4 : gR < w4.heap.size := Blk.lt hr4
    have h84 : G8 < w4.heap.size := hg4.lt
    clear hg4 hz4 hr4 hk4 hno hU hl3 hno4
    go_wp2_with fail
    refine (take_bad gR p A l.length c q4 0 w4 HR4.out).mono ?_
    rintro e w5 ⟨rfl, hr5, hk5⟩
    have hg5 := HG4.out.keep hk5 hn8
    have hz5 := HZ4.out.keep hk5 hn1
    obtain ⟨o0, o1, o2, o3, _, _, _, _⟩ := hg5.four
    obtain ⟨z0, z1, z2, z3, y0, y1, y2, y3⟩ := hz5.four
    have HZ5 := Lib.hid hz5
    have HK5 := Lib.hid (HK4.out.trans hk5 (fun _ _ h => h)); have HR5 := Lib.hid hr5
    clear hg5 hz5 hk5 hr5
    go_wp2_with fail
    go_loopw [100] (fun x wr => x = .int .i64 0 ∧ wr = w5) (fun x _ => 0)
    case atStart => exact ⟨rfl, rfl⟩
    case round =>
      obtain ⟨rfl, rfl⟩ := hrel
      go_wp2_with fail
      obtain ⟨r0, r1, r2, r3, _, _, _, _⟩ := (put4_blk HZ5.out (.int .i64 7) (.int .i64 0) (.string ⟨#[]⟩) (.slice none 0 0)).four
      unfold put4 at r0 r1 r2 r3
      refine bodyPost_ret (v := .agg #[.int .i64 7, .int .i64 0, .string ⟨#[]⟩, .slice none 0 0]) (by simp [results, Try.results41, go_sem, r0, r1, r2, r3]) rfl ?_
      exact rd_bad2 HK5.out HR5.out hgl
set_option maxRecDepth 100000 in
set_option maxHeartbeats 8000000 in
theorem box5_no (gR : Nat) (p : Value) (A : Option Addr) (l : List Int) (c q : Nat) (x : Int) (hx : U64 x) (hk : unK x = 5) (hn : unN x = (q : Int)) (hy : unE x = 0) (hq : q ≤ l.length) (hl6 : l.length ≤ 65536) (hU : ∀ x ∈ l, U64 x) (hlc : l.length ≤ c) (hA : A = none → c = 0) (g : Nat) (F : Nat → Prop) (Ts : List ByteArray) (hno : ∀ h, hdR l 5 q = some h → l.length < h.2.2 + h.2.1) (w : World) (henv : REnv w gR g F Ts A l) (h : Rdr w gR p A l.length c q false) :
    Calls Try.prog 41 #[.pointer (some ⟨gR, 0, none⟩), .int .u64 x] w (RdPost w gR p A l c none) := by
  have HUN := Lib.hid (show ∀ w : World, Calls Try.prog 59 #[.int .u64 x] w (fun e w' => e = .returned (.tuple #[.int .i64 5, .int .i64 (q : Int), .int .i64 0]) ∧ Below w.heap.size w w') from fun w => by
    have h := unpack_any x hx.1 hx.2 w
    rw [hk, hn, hy] at h
    exact h)
  have H := Lib.hid h
  have hgl : gR < w.heap.size := Blk.lt H.out
  have hz := Blk.new w 24 #[.int .i64 0, .int .i64 0, .string ⟨#[]⟩, .slice none 0 0]
  have hb0 := ballocs (Below.refl w.heap.size w) (.cells #[.int .i64 0, .int .i64 0, .string ⟨#[]⟩, .slice none 0 0] 24)
  have HZ := Lib.hid hz; have HB0 := Lib.hid hb0
  clear hz hb0 h hx hk hn hy 
  go_enter Try.func41, Try.ntmps41
  go_wp2_with fail
  obtain ⟨w1, hw1⟩ : ∃ x, w.alloc (.cells #[.int .i64 0, .int .i64 0, .string ⟨#[]⟩, .slice none 0 0] 24) = x := ⟨_, rfl⟩
  rw [hw1] at HZ HB0 ⊢
  clear hw1
  refine (HUN.out w1).mono ?_
  rintro e w2 ⟨rfl, hb2⟩
  have hr2 := (H.out.below HB0.out).below hb2
  have hz2 := HZ.out.below hb2 HZ.out.lt
  have hlt2 : gR < w2.heap.size := Blk.lt hr2
  have hlz2 : w.heap.size < w2.heap.size := hz2.lt
  obtain ⟨d0, d1, d2, d3, f2, f3⟩ := hr2.four
  have hb02 := fbelow HB0.out hb2
  have hne : gR ≠ w.heap.size := by omega
  have HB02 := Lib.hid hb02; have HR2 := Lib.hid hr2; have HZ2 := Lib.hid hz2
  clear hb2 hr2 hz2 hb02
  go_wp2_with fail
  have hb3 := ballocs (Below.refl w2.heap.size w2) (.cells #[.int .i64 5, .int .i64 0, .string ⟨#[]⟩, .slice none 0 0] 24)
  have hg8 := Blk.new w2 24 #[.int .i64 5, .int .i64 0, .string ⟨#[]⟩, .slice none 0 0]
  obtain ⟨w3, hw3⟩ : ∃ x, w2.alloc (.cells #[.int .i64 5, .int .i64 0, .string ⟨#[]⟩, .slice none 0 0] 24) = x := ⟨_, rfl⟩
  rw [hw3] at hb3 hg8 ⊢
  clear hw3
  have hr3 := HR2.out.below hb3
  have hz3 := HZ2.out.below hb3 HZ2.out.lt
  have hb03 := fbelow HB02.out hb3
  obtain ⟨G8, hG8⟩ : ∃ G8, w2.heap.size = G8 := ⟨_, rfl⟩
  rw [hG8] at hg8 hlt2 hlz2 ⊢
  have hn8 : G8 ≠ gR := by omega
  have hn81 : G8 ≠ w.heap.size := by omega
  have hn1 : ¬ (w.heap.size = gR) := fun e => hne e.symm
  have HR3 := Lib.hid hr3; have HZ3 := Lib.hid hz3; have HB03 := Lib.hid hb03; have HG8 := Lib.hid hg8
  clear hr3 hz3 hb03 hb3 hg8 hG8 d0 d1 d2 d3 f2 f3
  have hl3 := (henv.keep (Keep.new (F := fun b => b = gR) HB03.out)).2.2.1
  refine (head_any gR p A l c q 11 (by decide) w3 HR3.out hl3 hU hlc hA hl6 hq).mono ?_
  rintro e w4 ⟨hk4, (⟨x4, hx4, he4, hku4, rfl, hr4⟩ | ⟨hno4, rfl, q4, hr4⟩)⟩
  · obtain ⟨_, _, n1, n2, n3, _, _⟩ := un_facts he4
    rw [hku4] at n1 n2 n3
    have e1 : low 11 = 0 := rfl
    have e2 : high 11 = 137438953536 := rfl
    obtain ⟨m, hm⟩ : ∃ m : Nat, unN x4 = (m : Int) := ⟨(unN x4).toNat, by omega⟩
    rw [hm] at n1 n2 n3 ⊢
    rw [e1] at n1
    rw [e2] at n2
    have hh := hno ((m : Int) / 128, ((m : Int) % 128).toNat, q + 1) (by unfold hdR; rw [if_neg (by decide), hx4]; simp only; rw [if_pos ⟨he4, by rw [hku4]; rfl⟩, hm]; rfl)
    simp only at hh
    have hg4 := HG8.out.keep hk4 hn8
    have hz4 := HZ3.out.keep hk4 hn1
    have HK4 := Lib.hid (((Keep.new (F := fun b => b = gR) HB03.out)).trans hk4 (fun _ _ h => h))
    have HG4 := Lib.hid hg4; have HZ4 := Lib.hid hz4; have HR4 := Lib.hid hr4
    obtain ⟨o0, o1, o2, o3, u0, u1, u2, u3⟩ := hg4.four
    have hlt4 : gR < w4.heap.size := Blk.lt hr4
    have h84 : G8 < w4.heap.size := hg4.lt
    clear hg4 hz4 hr4 hk4 hno hU hl3 e1 e2
    go_wp2_with fail
    obtain ⟨a, ha⟩ : ∃ a : Nat, (m : Int) / 128 = (a : Int) := ⟨m / 128, by omega⟩
    obtain ⟨b, hb⟩ : ∃ b : Nat, (m : Int) % 128 = (b : Int) := ⟨m % 128, by omega⟩
    have hb7 : b < 128 := by omega
    rw [ha, hb]
    rw [hb, Int.toNat_natCast] at hh
    obtain ⟨hg41, hz41, hr41, hk41⟩ := store8 (v := .int .i64 (a : Int)) HG4.out HZ4.out HR4.out HK4.out hn8 hlz2
    obtain ⟨w41, hw41⟩ : ∃ x, w4.setCell ⟨G8, 1, none⟩ (.int .i64 (a : Int)) = x := ⟨_, rfl⟩
    rw [hw41] at hg41 hz41 hr41 hk41 ⊢
    clear hw41 HG4 HZ4 HR4 HK4 o0 o1 o2 o3 u0 u1 u2 u3
    have HG4 := Lib.hid hg41; have HZ4 := Lib.hid hz41; have HR4 := Lib.hid hr41; have HK4 := Lib.hid hk41
    clear hg41 hz41 hr41 hk41
    refine (take_no gR p A l.length c (q + 1) b w41 HR4.out hl6 (by have := (List.getElem?_eq_some_iff.1 hx4).1; omega) (by omega) hh).mono ?_
    rintro e w5 ⟨rfl, hr5, hk5⟩
    have hg5 := HG4.out.keep hk5 hn8
    have hz5 := HZ4.out.keep hk5 hn1
    obtain ⟨o0, o1, o2, o3, _, _, _, _⟩ := hg5.four
    obtain ⟨z0, z1, z2, z3, y0, y1, y2, y3⟩ := hz5.four
    have HZ5 := Lib.hid hz5
    have HK5 := Lib.hid (HK4.out.trans hk5 (fun _ _ h => h)); have HR5 := Lib.hid hr5
    clear hg5 hz5 hk5 hr5
    go_wp2_with fail
    go_loopw [100] (fun x wr => x = .int .i64 0 ∧ wr = w5) (fun x _ => 0)
    case atStart => exact ⟨rfl, rfl⟩
    case round =>
      obtain ⟨rfl, rfl⟩ := hrel
      go_wp2_with fail
      obtain ⟨r0, r1, r2, r3, _, _, _, _⟩ := (put4_blk HZ5.out (.int .i64 5) (.int .i64 a) (.string ⟨#[]⟩) (.slice none 0 0)).four
      unfold put4 at r0 r1 r2 r3
      refine bodyPost_ret (v := .agg #[.int .i64 5, .int .i64 a, .string ⟨#[]⟩, .slice none 0 0]) (by simp [results, Try.results41, go_sem, r0, r1, r2, r3]) rfl ?_
      exact rd_bad2 HK5.out HR5.out hgl
  · have hg4 := HG8.out.keep hk4 hn8
    have hz4 := HZ3.out.keep hk4 hn1
    have HK4 := Lib.hid (((Keep.new (F := fun b => b = gR) HB03.out)).trans hk4 (fun _ _ h => h))
    have HG4 := Lib.hid hg4; have HZ4 := Lib.hid hz4; have HR4 := Lib.hid hr4
    obtain ⟨o0, o1, o2, o3, u0, u1, u2, u3⟩ := hg4.four
    have hlt4 : gR < w4.heap.size := Blk.lt hr4
    have h84 : G8 < w4.heap.size := hg4.lt
    clear hg4 hz4 hr4 hk4 hno hU hl3 hno4
    go_wp2_with fail
    obtain ⟨hg41, hz41, hr41, hk41⟩ := store8 (v := .int .i64 0) HG4.out HZ4.out HR4.out HK4.out hn8 hlz2
    obtain ⟨w41, hw41⟩ : ∃ x, w4.setCell ⟨G8, 1, none⟩ (.int .i64 0) = x := ⟨_, rfl⟩
    rw [hw41] at hg41 hz41 hr41 hk41 ⊢
    clear hw41 HG4 HZ4 HR4 HK4 o0 o1 o2 o3 u0 u1 u2 u3
    have HG4 := Lib.hid hg41; have HZ4 := Lib.hid hz41; have HR4 := Lib.hid hr41; have HK4 := Lib.hid hk41
    clear hg41 hz41 hr41 hk41
    refine (take_bad gR p A l.length c q4 0 w41 HR4.out).mono ?_
    rintro e w5 ⟨rfl, hr5, hk5⟩
    have hg5 := HG4.out.keep hk5 hn8
    have hz5 := HZ4.out.keep hk5 hn1
    obtain ⟨o0, o1, o2, o3, _, _, _, _⟩ := hg5.four
    obtain ⟨z0, z1, z2, z3, y0, y1, y2, y3⟩ := hz5.four
    have HZ5 := Lib.hid hz5
    have HK5 := Lib.hid (HK4.out.trans hk5 (fun _ _ h => h)); have HR5 := Lib.hid hr5
    clear hg5 hz5 hk5 hr5
    go_wp2_with fail
    go_loopw [100] (fun x wr => x = .int .i64 0 ∧ wr = w5) (fun x _ => 0)
    case atStart => exact ⟨rfl, rfl⟩
    case round =>
      obtain ⟨rfl, rfl⟩ := hrel
      go_wp2_with fail
      obtain ⟨r0, r1, r2, r3, _, _, _, _⟩ := (put4_blk HZ5.out (.int .i64 5) (.int .i64 0) (.string ⟨#[]⟩) (.slice none 0 0)).four
      unfold put4 at r0 r1 r2 r3
      refine bodyPost_ret (v := .agg #[.int .i64 5, .int .i64 0, .string ⟨#[]⟩, .slice none 0 0]) (by simp [results, Try.results41, go_sem, r0, r1, r2, r3]) rfl ?_
      exact rd_bad2 HK5.out HR5.out hgl
end Go.Proofs.Ytfcialleekfjmaa.Fl
