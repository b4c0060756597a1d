/- flat.reader's term, by a contract: its leaves and faults. flat.reader's term, by a contract: faults, and atoms. (Printed by mk_fterm.py.) flat.reader's term, by a contract: boxed words whose parts cannot be taken. (Printed by mk_fterm3.py.) flat.reader's term: what its loop keeps. -/
import Derived.Test.YtfcialleekfjmaaFlTake
import Derived.Test.YtfcialleekfjmaaFlFlat
import Derived.Test.YtfcialleekfjmaaHeldZ
import Derived.Test.YtfcialleekfjmaaSteps
namespace Go.Proofs.Ytfcialleekfjmaa.Fl
open Go.RowKit K At Wd
set_option linter.unusedVariables false
set_option linter.unusedSimpArgs false
/-- What a reader needs that stays: the table of atoms, and the words. -/
def REnv (w : World) (gR g : Nat) (F : Nat → Prop) (T : List ByteArray) (A : Option Addr) (l : List Int) : Prop := Tab w F g T ∧ ¬ F gR ∧ Reads w gR 1 A l.length (u64s l) ∧ gR < w.heap.size
theorem REnv.keep {w w' : World} {gR g : Nat} {F : Nat → Prop} {T : List ByteArray} {A : Option Addr} {l : List Int} (h : REnv w gR g F T A l) (hk : Keep (fun b => b = gR) w w') : REnv w' gR g F T A l := by
  obtain ⟨h1, h2, h3, h4⟩ := h
  exact ⟨h1.keep hk (fun r hr e => h2 (e ▸ hr)), h2, h3.keepF (Nat.le_of_lt h4) hk (fun i hi e => by omega), Nat.lt_of_lt_of_le h4 hk.size⟩
/-- What a reading answers. -/
def RdPost (w : World) (gR : Nat) (p : Value) (A : Option Addr) (l : List Int) (c : Nat) (r : Option (Tm × Nat)) (e : Ending) (w' : World) : Prop :=
  Keep (fun b => b = gR) w w' ∧ match r with
    | some x => ∃ v, e = .returned v ∧ TAt w' (Fr w w') x.1 v ∧ Rdr w' gR p A l.length c (x.2 : Int) false
    | none => (∃ k n s A1 m c1, e = .returned (.agg #[.int .i64 k, .int .i64 n, .string s, .slice A1 m c1])) ∧ ∃ q' : Int, Rdr w' gR p A l.length c q' true
/-- The world at a return: the result's cells are written, and one more box. -/
theorem rd_world {w w2 : World} {gR : Nat} {p : Value} {A : Option Addr} {N c : Nat} {q : Int} {b : Bool} (hb : Below w.heap.size w w2) (hr : Rdr w2 gR p A N c q b) (hg : gR < w.heap.size) (x0 x1 x2 x3 : Value) (o : Obj) :
    Keep (fun b => b = gR) w ((put4 w2 w.heap.size x0 x1 x2 x3).alloc o) ∧ Rdr ((put4 w2 w.heap.size x0 x1 x2 x3).alloc o) gR p A N c q b := by
  have hne : gR ≠ w.heap.size := by omega
  exact ⟨(((((Keep.new (F := fun b => b = gR) hb).setCell (p := ⟨w.heap.size, 0, none⟩) (.inr (Nat.le_refl _)) _).setCell (p := ⟨w.heap.size, 1, none⟩) (.inr (Nat.le_refl _)) _).setCell (p := ⟨w.heap.size, 2, none⟩) (.inr (Nat.le_refl _)) _).setCell (p := ⟨w.heap.size, 3, none⟩) (.inr (Nat.le_refl _)) _).alloc o,
    ((((Blk.far hr hne _).far hne _).far hne _).far hne _).alloc o⟩
theorem rd_leaf {w w2 : World} {gR : Nat} {p : Value} {A : Option Addr} {l : List Int} {c q : Nat} {k n : Int} {o : Obj} (hb : Below w.heap.size w w2) (hr : Rdr w2 gR p A l.length c q false) (hg : gR < w.heap.size) (hk : (Lit.int .i64 k).wf = true) (hn : (Lit.int .i64 n).wf = true) :
    RdPost w gR p A l c (some (.mk k n ⟨#[]⟩ [], q)) (.returned (.agg #[.int .i64 k, .int .i64 n, .string ⟨#[]⟩, .slice none 0 0])) ((put4 w2 w.heap.size (.int .i64 k) (.int .i64 n) (.string ⟨#[]⟩) (.slice none 0 0)).alloc o) := by
  obtain ⟨h1, h2⟩ := rd_world hb hr hg (.int .i64 k) (.int .i64 n) (.string ⟨#[]⟩) (.slice none 0 0) o
  exact ⟨h1, _, rfl, TAt.of (t := .mk k n ⟨#[]⟩ []) (A := none) (c := 0) ⟨hk, hn, by show (0 : Nat) ≤ _; exact Nat.zero_le _, Nat.le_refl _, Nat.zero_le _, fun _ => rfl⟩ (TsAt.nil _ _ _), h2⟩
set_option maxRecDepth 100000 in
set_option maxHeartbeats 8000000 in
theorem term_leaf (gR : Nat) (p : Value) (A : Option Addr) (l : List Int) (c q : Nat) (x k n : Int) (hx : U64 x) (hk : unK x = k) (hn : unN x = n) (he : unE x = 0) (hlf : leafK k) (w : World) (h : Rdr w gR p A l.length c q false) :
    Calls Try.prog 41 #[.pointer (some ⟨gR, 0, none⟩), .int .u64 x] w (RdPost w gR p A l c (some (.mk k n ⟨#[]⟩ [], q))) := by
  have HUN := Lib.hid (show ∀ w : World, Calls Try.prog 59 #[.int .u64 x] w (fun e w' => e = .returned (.tuple #[.int .i64 k, .int .i64 n, .int .i64 0]) ∧ Below w.heap.size w w') from fun w => by
    have h := unpack_any x hx.1 hx.2 w
    rw [hk, hn, he] at h
    exact h)
  have H := Lib.hid h
  have HX := Lib.hid hx
  have HK := Lib.hid hk
  have hwn : (Lit.int .i64 n).wf = true := by
    have h := un_facts he
    rw [hk, hn] at h
    obtain ⟨_, _, h3, h4, _⟩ := h
    refine WalkArith.wf_i64 ?_
    rcases hlf with rfl | rfl | rfl | rfl | rfl
    · have e1 : low 1 = -576460752303423488 := rfl
      have e2 : high 1 = 576460752303423487 := rfl
      omega
    · have e1 : low 3 = 0 := rfl
      have e2 : high 3 = 1073741824 := rfl
      omega
    · have e1 : low 4 = 0 := rfl
      have e2 : high 4 = 1073741824 := rfl
      omega
    · have e1 : low 6 = 0 := rfl
      have e2 : high 6 = 1073741824 := rfl
      omega
    · have e1 : low 8 = 0 := rfl
      have e2 : high 8 = 0 := rfl
      omega
  clear h hx hk hn he
  have hgl : gR < w.heap.size := Blk.lt H.out
  have hz := Blk.new w 24 #[.int .i64 0, .int .i64 0, .string ⟨#[]⟩, .slice none 0 0]
  have hb0 := ballocs (Below.refl w.heap.size w) (.cells #[.int .i64 0, .int .i64 0, .string ⟨#[]⟩, .slice none 0 0] 24)
  have HZ := Lib.hid hz; have HB0 := Lib.hid hb0
  clear hz hb0
  rcases hlf with rfl | rfl | rfl | rfl | rfl
  · go_enter Try.func41, Try.ntmps41
    go_wp2_with fail
    obtain ⟨w1, hw1⟩ : ∃ x, w.alloc (.cells #[.int .i64 0, .int .i64 0, .string ⟨#[]⟩, .slice none 0 0] 24) = x := ⟨_, rfl⟩
    rw [hw1] at HZ HB0 ⊢
    clear hw1
    refine (HUN.out w1).mono ?_
    rintro e w2 ⟨rfl, hb2⟩
    have hr2 := (H.out.below HB0.out).below hb2
    have hz2 := HZ.out.below hb2 HZ.out.lt
    have hlt2 : gR < w2.heap.size := Blk.lt hr2
    have hlz2 : w.heap.size < w2.heap.size := hz2.lt
    obtain ⟨d0, d1, d2, d3, f2, f3⟩ := hr2.four
    obtain ⟨z0, z1, z2, z3, y0, y1, y2, y3⟩ := hz2.four
    have hb02 := fbelow HB0.out hb2
    have HB02 := Lib.hid hb02; have HR2 := Lib.hid hr2; have HZ2 := Lib.hid hz2
    clear hb2 hr2 hz2 hb02
    go_wp2_with fail
    refine bodyPost_ret (v := .agg #[.int .i64 1, .int .i64 n, .string ⟨#[]⟩, .slice none 0 0]) (by simp [results, Try.results41, go_sem, z0, z1, z2, z3, hlz2]) rfl ?_
    exact rd_leaf (k := 1) HB02.out HR2.out hgl (by decide) hwn
  · go_enter Try.func41, Try.ntmps41
    go_wp2_with fail
    obtain ⟨w1, hw1⟩ : ∃ x, w.alloc (.cells #[.int .i64 0, .int .i64 0, .string ⟨#[]⟩, .slice none 0 0] 24) = x := ⟨_, rfl⟩
    rw [hw1] at HZ HB0 ⊢
    clear hw1
    refine (HUN.out w1).mono ?_
    rintro e w2 ⟨rfl, hb2⟩
    have hr2 := (H.out.below HB0.out).below hb2
    have hz2 := HZ.out.below hb2 HZ.out.lt
    have hlt2 : gR < w2.heap.size := Blk.lt hr2
    have hlz2 : w.heap.size < w2.heap.size := hz2.lt
    obtain ⟨d0, d1, d2, d3, f2, f3⟩ := hr2.four
    obtain ⟨z0, z1, z2, z3, y0, y1, y2, y3⟩ := hz2.four
    have hb02 := fbelow HB0.out hb2
    have HB02 := Lib.hid hb02; have HR2 := Lib.hid hr2; have HZ2 := Lib.hid hz2
    clear hb2 hr2 hz2 hb02
    go_wp2_with fail
    refine bodyPost_ret (v := .agg #[.int .i64 3, .int .i64 n, .string ⟨#[]⟩, .slice none 0 0]) (by simp [results, Try.results41, go_sem, z0, z1, z2, z3, hlz2]) rfl ?_
    exact rd_leaf (k := 3) HB02.out HR2.out hgl (by decide) hwn
  · go_enter Try.func41, Try.ntmps41
    go_wp2_with fail
    obtain ⟨w1, hw1⟩ : ∃ x, w.alloc (.cells #[.int .i64 0, .int .i64 0, .string ⟨#[]⟩, .slice none 0 0] 24) = x := ⟨_, rfl⟩
    rw [hw1] at HZ HB0 ⊢
    clear hw1
    refine (HUN.out w1).mono ?_
    rintro e w2 ⟨rfl, hb2⟩
    have hr2 := (H.out.below HB0.out).below hb2
    have hz2 := HZ.out.below hb2 HZ.out.lt
    have hlt2 : gR < w2.heap.size := Blk.lt hr2
    have hlz2 : w.heap.size < w2.heap.size := hz2.lt
    obtain ⟨d0, d1, d2, d3, f2, f3⟩ := hr2.four
    obtain ⟨z0, z1, z2, z3, y0, y1, y2, y3⟩ := hz2.four
    have hb02 := fbelow HB0.out hb2
    have HB02 := Lib.hid hb02; have HR2 := Lib.hid hr2; have HZ2 := Lib.hid hz2
    clear hb2 hr2 hz2 hb02
    go_wp2_with fail
    refine bodyPost_ret (v := .agg #[.int .i64 4, .int .i64 n, .string ⟨#[]⟩, .slice none 0 0]) (by simp [results, Try.results41, go_sem, z0, z1, z2, z3, hlz2]) rfl ?_
    exact rd_leaf (k := 4) HB02.out HR2.out hgl (by decide) hwn
  · go_enter Try.func41, Try.ntmps41
    go_wp2_with fail
    obtain ⟨w1, hw1⟩ : ∃ x, w.alloc (.cells #[.int .i64 0, .int .i64 0, .string ⟨#[]⟩, .slice none 0 0] 24) = x := ⟨_, rfl⟩
    rw [hw1] at HZ HB0 ⊢
    clear hw1
    refine (HUN.out w1).mono ?_
    rintro e w2 ⟨rfl, hb2⟩
    have hr2 := (H.out.below HB0.out).below hb2
    have hz2 := HZ.out.below hb2 HZ.out.lt
    have hlt2 : gR < w2.heap.size := Blk.lt hr2
    have hlz2 : w.heap.size < w2.heap.size := hz2.lt
    obtain ⟨d0, d1, d2, d3, f2, f3⟩ := hr2.four
    obtain ⟨z0, z1, z2, z3, y0, y1, y2, y3⟩ := hz2.four
    have hb02 := fbelow HB0.out hb2
    have HB02 := Lib.hid hb02; have HR2 := Lib.hid hr2; have HZ2 := Lib.hid hz2
    clear hb2 hr2 hz2 hb02
    go_wp2_with fail
    refine bodyPost_ret (v := .agg #[.int .i64 6, .int .i64 n, .string ⟨#[]⟩, .slice none 0 0]) (by simp [results, Try.results41, go_sem, z0, z1, z2, z3, hlz2]) rfl ?_
    exact rd_leaf (k := 6) HB02.out HR2.out hgl (by decide) hwn
  · go_enter Try.func41, Try.ntmps41
    go_wp2_with fail
    obtain ⟨w1, hw1⟩ : ∃ x, w.alloc (.cells #[.int .i64 0, .int .i64 0, .string ⟨#[]⟩, .slice none 0 0] 24) = x := ⟨_, rfl⟩
    rw [hw1] at HZ HB0 ⊢
    clear hw1
    refine (HUN.out w1).mono ?_
    rintro e w2 ⟨rfl, hb2⟩
    have hr2 := (H.out.below HB0.out).below hb2
    have hz2 := HZ.out.below hb2 HZ.out.lt
    have hlt2 : gR < w2.heap.size := Blk.lt hr2
    have hlz2 : w.heap.size < w2.heap.size := hz2.lt
    obtain ⟨d0, d1, d2, d3, f2, f3⟩ := hr2.four
    obtain ⟨z0, z1, z2, z3, y0, y1, y2, y3⟩ := hz2.four
    have hb02 := fbelow HB0.out hb2
    have HB02 := Lib.hid hb02; have HR2 := Lib.hid hr2; have HZ2 := Lib.hid hz2
    clear hb2 hr2 hz2 hb02
    go_wp2_with fail
    refine bodyPost_ret (v := .agg #[.int .i64 8, .int .i64 n, .string ⟨#[]⟩, .slice none 0 0]) (by simp [results, Try.results41, go_sem, z0, z1, z2, z3, hlz2]) rfl ?_
    exact rd_leaf (k := 8) HB02.out HR2.out hgl (by decide) hwn
theorem rd_worldb {w w2 : World} {gR : Nat} {p : Value} {A : Option Addr} {N c : Nat} {q : Int} {b : Bool} (hb : Below w.heap.size w w2) (hr : Rdr w2 gR p A N c q b) (hg : gR < w.heap.size) (b' : Bool) (x0 x1 x2 x3 : Value) (o : Obj) :
    Keep (fun b => b = gR) w ((put4 (w2.setCell ⟨gR, 3, none⟩ (.bool b')) w.heap.size x0 x1 x2 x3).alloc o) ∧ Rdr ((put4 (w2.setCell ⟨gR, 3, none⟩ (.bool b')) w.heap.size x0 x1 x2 x3).alloc o) gR p A N c q b' := by
  have hne : gR ≠ w.heap.size := by omega
  exact ⟨((((((Keep.new (F := fun b => b = gR) hb).setCell (p := ⟨gR, 3, none⟩) (.inl rfl) _).setCell (p := ⟨w.heap.size, 0, none⟩) (.inr (Nat.le_refl _)) _).setCell (p := ⟨w.heap.size, 1, none⟩) (.inr (Nat.le_refl _)) _).setCell (p := ⟨w.heap.size, 2, none⟩) (.inr (Nat.le_refl _)) _).setCell (p := ⟨w.heap.size, 3, none⟩) (.inr (Nat.le_refl _)) _).alloc o,
    ((((Blk.far (hr.bad b') hne _).far hne _).far hne _).far hne _).alloc o⟩
theorem rd_bad {w w2 : World} {gR : Nat} {p : Value} {A : Option Addr} {l : List Int} {c : Nat} {q : Int} {b : Bool} {k n : Int} {s : ByteArray} {o : Obj} (hb : Below w.heap.size w w2) (hr : Rdr w2 gR p A l.length c q b) (hg : gR < w.heap.size) :
    RdPost w gR p A l c none (.returned (.agg #[.int .i64 k, .int .i64 n, .string s, .slice none 0 0])) ((put4 (w2.setCell ⟨gR, 3, none⟩ (.bool true)) w.heap.size (.int .i64 k) (.int .i64 n) (.string s) (.slice none 0 0)).alloc o) := by
  obtain ⟨h1, h2⟩ := rd_worldb hb hr hg true (.int .i64 k) (.int .i64 n) (.string s) (.slice none 0 0) o
  exact ⟨h1, ⟨k, n, s, none, 0, 0, rfl⟩, q, h2⟩
set_option maxRecDepth 100000 in
set_option maxHeartbeats 8000000 in
theorem term_bad1 (gR : Nat) (p : Value) (A : Option Addr) (l : List Int) (c q : Nat) (x k n y : Int) (hx : U64 x) (hk : unK x = k) (hn : unN x = n) (hy : unE x = y) (he : y ≠ 0) (w : World) (h : Rdr w gR p A l.length c q false) :
    Calls Try.prog 41 #[.pointer (some ⟨gR, 0, none⟩), .int .u64 x] w (RdPost w gR p A l c none) := by
  have HUN := Lib.hid (show ∀ w : World, Calls Try.prog 59 #[.int .u64 x] w (fun e w' => e = .returned (.tuple #[.int .i64 k, .int .i64 n, .int .i64 y]) ∧ Below w.heap.size w w') from fun w => by
    have h := unpack_any x hx.1 hx.2 w
    rw [hk, hn, hy] at h
    exact h)
  have H := Lib.hid h
  have by0 : (y != 0) = true := by simpa using he
  have hgl : gR < w.heap.size := Blk.lt H.out
  have hz := Blk.new w 24 #[.int .i64 0, .int .i64 0, .string ⟨#[]⟩, .slice none 0 0]
  have hb0 := ballocs (Below.refl w.heap.size w) (.cells #[.int .i64 0, .int .i64 0, .string ⟨#[]⟩, .slice none 0 0] 24)
  have HZ := Lib.hid hz; have HB0 := Lib.hid hb0
  clear hz hb0 h hx hk hn he
  go_enter Try.func41, Try.ntmps41
  go_wp2_with fail
  obtain ⟨w1, hw1⟩ : ∃ x, w.alloc (.cells #[.int .i64 0, .int .i64 0, .string ⟨#[]⟩, .slice none 0 0] 24) = x := ⟨_, rfl⟩
  rw [hw1] at HZ HB0 ⊢
  clear hw1
  refine (HUN.out w1).mono ?_
  rintro e w2 ⟨rfl, hb2⟩
  have hr2 := (H.out.below HB0.out).below hb2
  have hz2 := HZ.out.below hb2 HZ.out.lt
  have hlt2 : gR < w2.heap.size := Blk.lt hr2
  have hlz2 : w.heap.size < w2.heap.size := hz2.lt
  obtain ⟨d0, d1, d2, d3, f2, f3⟩ := hr2.four
  obtain ⟨z0, z1, z2, z3, y0, y1, y2, y3⟩ := hz2.four
  have hb02 := fbelow HB0.out hb2
  have hne : gR ≠ w.heap.size := by omega
  have HB02 := Lib.hid hb02; have HR2 := Lib.hid hr2; have HZ2 := Lib.hid hz2
  clear hb2 hr2 hz2 hb02
  go_wp2_with fail
  refine bodyPost_ret (v := .agg #[.int .i64 k, .int .i64 n, .string ⟨#[]⟩, .slice none 0 0]) (by simp [results, Try.results41, go_sem, z0, z1, z2, z3, hlz2]) rfl ?_
  exact rd_bad HB02.out HR2.out hgl
set_option maxRecDepth 100000 in
set_option maxHeartbeats 8000000 in
theorem term_bad2 (gR : Nat) (p : Value) (A : Option Addr) (l : List Int) (c q : Nat) (x k n y : Int) (hx : U64 x) (hk : unK x = k) (hn : unN x = n) (hy : unE x = y) (he : y = 0) (hkk : k < 1 ∨ 9 < k) (w : World) (h : Rdr w gR p A l.length c q false) :
    Calls Try.prog 41 #[.pointer (some ⟨gR, 0, none⟩), .int .u64 x] w (RdPost w gR p A l c none) := by
  have HUN := Lib.hid (show ∀ w : World, Calls Try.prog 59 #[.int .u64 x] w (fun e w' => e = .returned (.tuple #[.int .i64 k, .int .i64 n, .int .i64 y]) ∧ Below w.heap.size w w') from fun w => by
    have h := unpack_any x hx.1 hx.2 w
    rw [hk, hn, hy] at h
    exact h)
  have H := Lib.hid h
  subst he
  have b1 : (k == 1) = false := by rw [beq_eq_false_iff_ne]; omega
  have b2 : (k == 2) = false := by rw [beq_eq_false_iff_ne]; omega
  have b3 : (k == 3) = false := by rw [beq_eq_false_iff_ne]; omega
  have b4 : (k == 4) = false := by rw [beq_eq_false_iff_ne]; omega
  have b5 : (k == 5) = false := by rw [beq_eq_false_iff_ne]; omega
  have b6 : (k == 6) = false := by rw [beq_eq_false_iff_ne]; omega
  have b7 : (k == 7) = false := by rw [beq_eq_false_iff_ne]; omega
  have b8 : (k == 8) = false := by rw [beq_eq_false_iff_ne]; omega
  have b9 : (k == 9) = false := by rw [beq_eq_false_iff_ne]; omega
  have hgl : gR < w.heap.size := Blk.lt H.out
  have hz := Blk.new w 24 #[.int .i64 0, .int .i64 0, .string ⟨#[]⟩, .slice none 0 0]
  have hb0 := ballocs (Below.refl w.heap.size w) (.cells #[.int .i64 0, .int .i64 0, .string ⟨#[]⟩, .slice none 0 0] 24)
  have HZ := Lib.hid hz; have HB0 := Lib.hid hb0
  clear hz hb0 h hx hk hn hkk
  go_enter Try.func41, Try.ntmps41
  go_wp2_with fail
  obtain ⟨w1, hw1⟩ : ∃ x, w.alloc (.cells #[.int .i64 0, .int .i64 0, .string ⟨#[]⟩, .slice none 0 0] 24) = x := ⟨_, rfl⟩
  rw [hw1] at HZ HB0 ⊢
  clear hw1
  refine (HUN.out w1).mono ?_
  rintro e w2 ⟨rfl, hb2⟩
  have hr2 := (H.out.below HB0.out).below hb2
  have hz2 := HZ.out.below hb2 HZ.out.lt
  have hlt2 : gR < w2.heap.size := Blk.lt hr2
  have hlz2 : w.heap.size < w2.heap.size := hz2.lt
  obtain ⟨d0, d1, d2, d3, f2, f3⟩ := hr2.four
  obtain ⟨z0, z1, z2, z3, y0, y1, y2, y3⟩ := hz2.four
  have hb02 := fbelow HB0.out hb2
  have hne : gR ≠ w.heap.size := by omega
  have HB02 := Lib.hid hb02; have HR2 := Lib.hid hr2; have HZ2 := Lib.hid hz2
  clear hb2 hr2 hz2 hb02
  go_wp2_with fail
  refine bodyPost_ret (v := .agg #[.int .i64 k, .int .i64 n, .string ⟨#[]⟩, .slice none 0 0]) (by simp [results, Try.results41, go_sem, z0, z1, z2, z3, hlz2]) rfl ?_
  exact rd_bad HB02.out HR2.out hgl
set_option maxRecDepth 100000 in
set_option maxHeartbeats 8000000 in
theorem term_bad3 (gR : Nat) (p : Value) (A : Option Addr) (l : List Int) (c q : Nat) (x k n y : Int) (hx : U64 x) (hk : unK x = k) (hn : unN x = n) (hy : unE x = y) (he : y = 0) (hkk : k = 5 ∨ k = 7 ∨ k = 9) (hnq : n ≠ (q : Int)) (w : World) (h : Rdr w gR p A l.length c q false) :
    Calls Try.prog 41 #[.pointer (some ⟨gR, 0, none⟩), .int .u64 x] w (RdPost w gR p A l c none) := by
  have HUN := Lib.hid (show ∀ w : World, Calls Try.prog 59 #[.int .u64 x] w (fun e w' => e = .returned (.tuple #[.int .i64 k, .int .i64 n, .int .i64 y]) ∧ Below w.heap.size w w') from fun w => by
    have h := unpack_any x hx.1 hx.2 w
    rw [hk, hn, hy] at h
    exact h)
  have H := Lib.hid h
  subst he
  have bn : (n != (q : Int)) = true := by simpa using hnq
  have hgl : gR < w.heap.size := Blk.lt H.out
  have hz := Blk.new w 24 #[.int .i64 0, .int .i64 0, .string ⟨#[]⟩, .slice none 0 0]
  have hb0 := ballocs (Below.refl w.heap.size w) (.cells #[.int .i64 0, .int .i64 0, .string ⟨#[]⟩, .slice none 0 0] 24)
  have HZ := Lib.hid hz; have HB0 := Lib.hid hb0
  clear hz hb0 h hx hk hn 
  rcases hkk with rfl | rfl | rfl
  · go_enter Try.func41, Try.ntmps41
    go_wp2_with fail
    obtain ⟨w1, hw1⟩ : ∃ x, w.alloc (.cells #[.int .i64 0, .int .i64 0, .string ⟨#[]⟩, .slice none 0 0] 24) = x := ⟨_, rfl⟩
    rw [hw1] at HZ HB0 ⊢
    clear hw1
    refine (HUN.out w1).mono ?_
    rintro e w2 ⟨rfl, hb2⟩
    have hr2 := (H.out.below HB0.out).below hb2
    have hz2 := HZ.out.below hb2 HZ.out.lt
    have hlt2 : gR < w2.heap.size := Blk.lt hr2
    have hlz2 : w.heap.size < w2.heap.size := hz2.lt
    obtain ⟨d0, d1, d2, d3, f2, f3⟩ := hr2.four
    obtain ⟨z0, z1, z2, z3, y0, y1, y2, y3⟩ := hz2.four
    have hb02 := fbelow HB0.out hb2
    have hne : gR ≠ w.heap.size := by omega
    have HB02 := Lib.hid hb02; have HR2 := Lib.hid hr2; have HZ2 := Lib.hid hz2
    clear hb2 hr2 hz2 hb02
    go_wp2_with fail
    refine bodyPost_ret (v := .agg #[.int .i64 5, .int .i64 n, .string ⟨#[]⟩, .slice none 0 0]) (by simp [results, Try.results41, go_sem, z0, z1, z2, z3, hlz2]) rfl ?_
    exact rd_bad HB02.out HR2.out hgl
  · go_enter Try.func41, Try.ntmps41
    go_wp2_with fail
    obtain ⟨w1, hw1⟩ : ∃ x, w.alloc (.cells #[.int .i64 0, .int .i64 0, .string ⟨#[]⟩, .slice none 0 0] 24) = x := ⟨_, rfl⟩
    rw [hw1] at HZ HB0 ⊢
    clear hw1
    refine (HUN.out w1).mono ?_
    rintro e w2 ⟨rfl, hb2⟩
    have hr2 := (H.out.below HB0.out).below hb2
    have hz2 := HZ.out.below hb2 HZ.out.lt
    have hlt2 : gR < w2.heap.size := Blk.lt hr2
    have hlz2 : w.heap.size < w2.heap.size := hz2.lt
    obtain ⟨d0, d1, d2, d3, f2, f3⟩ := hr2.four
    obtain ⟨z0, z1, z2, z3, y0, y1, y2, y3⟩ := hz2.four
    have hb02 := fbelow HB0.out hb2
    have hne : gR ≠ w.heap.size := by omega
    have HB02 := Lib.hid hb02; have HR2 := Lib.hid hr2; have HZ2 := Lib.hid hz2
    clear hb2 hr2 hz2 hb02
    go_wp2_with fail
    refine bodyPost_ret (v := .agg #[.int .i64 7, .int .i64 n, .string ⟨#[]⟩, .slice none 0 0]) (by simp [results, Try.results41, go_sem, z0, z1, z2, z3, hlz2]) rfl ?_
    exact rd_bad HB02.out HR2.out hgl
  · go_enter Try.func41, Try.ntmps41
    go_wp2_with fail
    obtain ⟨w1, hw1⟩ : ∃ x, w.alloc (.cells #[.int .i64 0, .int .i64 0, .string ⟨#[]⟩, .slice none 0 0] 24) = x := ⟨_, rfl⟩
    rw [hw1] at HZ HB0 ⊢
    clear hw1
    refine (HUN.out w1).mono ?_
    rintro e w2 ⟨rfl, hb2⟩
    have hr2 := (H.out.below HB0.out).below hb2
    have hz2 := HZ.out.below hb2 HZ.out.lt
    have hlt2 : gR < w2.heap.size := Blk.lt hr2
    have hlz2 : w.heap.size < w2.heap.size := hz2.lt
    obtain ⟨d0, d1, d2, d3, f2, f3⟩ := hr2.four
    obtain ⟨z0, z1, z2, z3, y0, y1, y2, y3⟩ := hz2.four
    have hb02 := fbelow HB0.out hb2
    have hne : gR ≠ w.heap.size := by omega
    have HB02 := Lib.hid hb02; have HR2 := Lib.hid hr2; have HZ2 := Lib.hid hz2
    clear hb2 hr2 hz2 hb02
    go_wp2_with fail
    refine bodyPost_ret (v := .agg #[.int .i64 9, .int .i64 n, .string ⟨#[]⟩, .slice none 0 0]) (by simp [results, Try.results41, go_sem, z0, z1, z2, z3, hlz2]) rfl ?_
    exact rd_bad HB02.out HR2.out hgl
theorem rd_atom {w w2 : World} {gR : Nat} {p : Value} {A : Option Addr} {l : List Int} {c q : Nat} {s : ByteArray} {o : Obj} (hs : s.size ≤ 64) (hb : Below w.heap.size w w2) (hr : Rdr w2 gR p A l.length c q false) (hg : gR < w.heap.size) :
    RdPost w gR p A l c (some (.mk 2 0 s [], q)) (.returned (.agg #[.int .i64 2, .int .i64 0, .string s, .slice none 0 0])) ((put4 (w2.setCell ⟨gR, 3, none⟩ (.bool false)) w.heap.size (.int .i64 2) (.int .i64 0) (.string s) (.slice none 0 0)).alloc o) := by
  obtain ⟨h1, h2⟩ := rd_worldb hb hr hg false (.int .i64 2) (.int .i64 0) (.string s) (.slice none 0 0) o
  exact ⟨h1, _, rfl, TAt.of (t := .mk 2 0 s []) (A := none) (c := 0) ⟨(by decide : (Lit.int .i64 2).wf = true), (by decide : (Lit.int .i64 0).wf = true), by show s.size ≤ _; unfold maxLen; omega, Nat.le_refl _, Nat.zero_le _, fun _ => rfl⟩ (TsAt.nil _ _ _), h2⟩
set_option maxRecDepth 100000 in
set_option maxHeartbeats 8000000 in
theorem term_atom (gR : Nat) (p : Value) (A : Option Addr) (l : List Int) (c q : Nat) (x k n y : Int) (hx : U64 x) (hk : unK x = k) (hn : unN x = n) (hy : unE x = y) (m : Nat) (hm : n = (m : Int)) (s : ByteArray) (g : Nat) (F : Nat → Prop) (T : List ByteArray) (hp : p = .pointer (some ⟨g, 0, none⟩)) (he : y = 0) (hkk : k = 2) (hT : T[m]? = some s) (h64 : s.size ≤ 64) (w : World) (henv : REnv w gR g F T A l) (h : Rdr w gR p A l.length c q false) :
    Calls Try.prog 41 #[.pointer (some ⟨gR, 0, none⟩), .int .u64 x] w (RdPost w gR p A l c (some (.mk 2 0 s [], q))) := by
  have HUN := Lib.hid (show ∀ w : World, Calls Try.prog 59 #[.int .u64 x] w (fun e w' => e = .returned (.tuple #[.int .i64 k, .int .i64 n, .int .i64 y]) ∧ Below w.heap.size w w') from fun w => by
    have h := unpack_any x hx.1 hx.2 w
    rw [hk, hn, hy] at h
    exact h)
  have H := Lib.hid h
  subst he; subst hkk; subst hm; subst hp
  have hgl : gR < w.heap.size := Blk.lt H.out
  have hz := Blk.new w 24 #[.int .i64 0, .int .i64 0, .string ⟨#[]⟩, .slice none 0 0]
  have hb0 := ballocs (Below.refl w.heap.size w) (.cells #[.int .i64 0, .int .i64 0, .string ⟨#[]⟩, .slice none 0 0] 24)
  have HZ := Lib.hid hz; have HB0 := Lib.hid hb0
  clear hz hb0 h hx hk hn 
  go_enter Try.func41, Try.ntmps41
  go_wp2_with fail
  obtain ⟨w1, hw1⟩ : ∃ x, w.alloc (.cells #[.int .i64 0, .int .i64 0, .string ⟨#[]⟩, .slice none 0 0] 24) = x := ⟨_, rfl⟩
  rw [hw1] at HZ HB0 ⊢
  clear hw1
  refine (HUN.out w1).mono ?_
  rintro e w2 ⟨rfl, hb2⟩
  have hr2 := (H.out.below HB0.out).below hb2
  have hz2 := HZ.out.below hb2 HZ.out.lt
  have hlt2 : gR < w2.heap.size := Blk.lt hr2
  have hlz2 : w.heap.size < w2.heap.size := hz2.lt
  obtain ⟨d0, d1, d2, d3, f2, f3⟩ := hr2.four
  obtain ⟨z0, z1, z2, z3, y0, y1, y2, y3⟩ := hz2.four
  have htb : ∀ o, Tab (w2.alloc o) F g T := fun o => (henv.keep (Keep.new (F := fun b => b = gR) (ballocs (fbelow HB0.out hb2) o))).1
  have HTB := Lib.hid htb; clear htb
  have hb02 := fbelow HB0.out hb2
  have hne : gR ≠ w.heap.size := by omega
  have HB02 := Lib.hid hb02; have HR2 := Lib.hid hr2; have HZ2 := Lib.hid hz2
  clear hb2 hr2 hz2 hb02
  go_wp2_with (first
    | (go_at_call 55; refine (name_yes g T m s _ F (HTB.out _) hT).mono ?_; rintro e w3 ⟨rfl, rfl⟩))
  refine bodyPost_ret (v := .agg #[.int .i64 2, .int .i64 0, .string s, .slice none 0 0]) (by simp [results, Try.results41, go_sem, z0, z1, z2, z3, hlz2]) rfl ?_
  exact rd_atom h64 HB02.out HR2.out hgl
set_option maxRecDepth 100000 in
set_option maxHeartbeats 8000000 in
theorem term_noatom (gR : Nat) (p : Value) (A : Option Addr) (l : List Int) (c q : Nat) (x k n y : Int) (hx : U64 x) (hk : unK x = k) (hn : unN x = n) (hy : unE x = y) (m : Nat) (hm : n = (m : Int)) (s : ByteArray) (g : Nat) (F : Nat → Prop) (T : List ByteArray) (hp : p = .pointer (some ⟨g, 0, none⟩)) (he : y = 0) (hkk : k = 2) (hT : T.length ≤ m) (w : World) (henv : REnv w gR g F T A l) (h : Rdr w gR p A l.length c q false) :
    Calls Try.prog 41 #[.pointer (some ⟨gR, 0, none⟩), .int .u64 x] w (RdPost w gR p A l c none) := by
  have HUN := Lib.hid (show ∀ w : World, Calls Try.prog 59 #[.int .u64 x] w (fun e w' => e = .returned (.tuple #[.int .i64 k, .int .i64 n, .int .i64 y]) ∧ Below w.heap.size w w') from fun w => by
    have h := unpack_any x hx.1 hx.2 w
    rw [hk, hn, hy] at h
    exact h)
  have H := Lib.hid h
  subst he; subst hkk; subst hm; subst hp
  have hgl : gR < w.heap.size := Blk.lt H.out
  have hz := Blk.new w 24 #[.int .i64 0, .int .i64 0, .string ⟨#[]⟩, .slice none 0 0]
  have hb0 := ballocs (Below.refl w.heap.size w) (.cells #[.int .i64 0, .int .i64 0, .string ⟨#[]⟩, .slice none 0 0] 24)
  have HZ := Lib.hid hz; have HB0 := Lib.hid hb0
  clear hz hb0 h hx hk hn 
  go_enter Try.func41, Try.ntmps41
  go_wp2_with fail
  obtain ⟨w1, hw1⟩ : ∃ x, w.alloc (.cells #[.int .i64 0, .int .i64 0, .string ⟨#[]⟩, .slice none 0 0] 24) = x := ⟨_, rfl⟩
  rw [hw1] at HZ HB0 ⊢
  clear hw1
  refine (HUN.out w1).mono ?_
  rintro e w2 ⟨rfl, hb2⟩
  have hr2 := (H.out.below HB0.out).below hb2
  have hz2 := HZ.out.below hb2 HZ.out.lt
  have hlt2 : gR < w2.heap.size := Blk.lt hr2
  have hlz2 : w.heap.size < w2.heap.size := hz2.lt
  obtain ⟨d0, d1, d2, d3, f2, f3⟩ := hr2.four
  obtain ⟨z0, z1, z2, z3, y0, y1, y2, y3⟩ := hz2.four
  have htb : ∀ o, Tab (w2.alloc o) F g T := fun o => (henv.keep (Keep.new (F := fun b => b = gR) (ballocs (fbelow HB0.out hb2) o))).1
  have HTB := Lib.hid htb; clear htb
  have hb02 := fbelow HB0.out hb2
  have hne : gR ≠ w.heap.size := by omega
  have HB02 := Lib.hid hb02; have HR2 := Lib.hid hr2; have HZ2 := Lib.hid hz2
  clear hb2 hr2 hz2 hb02
  go_wp2_with (first
    | (go_at_call 55; refine (name_no g T m _ F (HTB.out _) (.inr (by omega))).mono ?_; rintro e w3 ⟨rfl, rfl⟩))
  refine bodyPost_ret (v := .agg #[.int .i64 2, .int .i64 0, .string ByteArray.empty, .slice none 0 0]) (by simp [results, Try.results41, go_sem, z0, z1, z2, z3, hlz2]) rfl ?_
  exact rd_bad HB02.out HR2.out hgl
theorem rd_bad2 {w w5 : World} {gR : Nat} {p : Value} {A : Option Addr} {l : List Int} {c : Nat} {q : Int} {k n : Int} {s : ByteArray} {A1 : Option Addr} {m1 c1 : Nat} (hk : Keep (fun b => b = gR) w w5) (hr : Rdr w5 gR p A l.length c q true) (hg : gR < w.heap.size) :
    RdPost w gR p A l c none (.returned (.agg #[.int .i64 k, .int .i64 n, .string s, .slice A1 m1 c1])) (put4 w5 w.heap.size (.int .i64 k) (.int .i64 n) (.string s) (.slice A1 m1 c1)) := by
  have hne : gR ≠ w.heap.size := by omega
  exact ⟨((((hk.setCell (p := ⟨w.heap.size, 0, none⟩) (.inr (Nat.le_refl _)) _).setCell (p := ⟨w.heap.size, 1, none⟩) (.inr (Nat.le_refl _)) _).setCell (p := ⟨w.heap.size, 2, none⟩) (.inr (Nat.le_refl _)) _).setCell (p := ⟨w.heap.size, 3, none⟩) (.inr (Nat.le_refl _)) _),
    ⟨k, n, s, A1, m1, c1, rfl⟩, q, (((Blk.far hr hne _).far hne _).far hne _).far hne _⟩
/-- A boxed function's number is stored. -/
theorem store8 {w w4 : World} {gR G8 : Nat} {p : Value} {A : Option Addr} {n c : Nat} {q : Int} {bd : Bool} {t t' : TypeId} {x0 x1 x2 x3 v : Value} {zs : Array Value} (hg : Blk w4 G8 t #[x0, x1, x2, x3]) (hz : Blk w4 w.heap.size t' zs) (hr : Rdr w4 gR p A n c q bd) (hk : Keep (fun b => b = gR) w w4) (h8 : G8 ≠ gR) (h81 : w.heap.size < G8) :
    Blk (w4.setCell ⟨G8, 1, none⟩ v) G8 t #[x0, v, x2, x3] ∧ Blk (w4.setCell ⟨G8, 1, none⟩ v) w.heap.size t' zs ∧ Rdr (w4.setCell ⟨G8, 1, none⟩ v) gR p A n c q bd ∧ Keep (fun b => b = gR) w (w4.setCell ⟨G8, 1, none⟩ v) :=
  ⟨by have := hg.set_ 1 v; simpa using this, hz.far (by show w.heap.size ≠ G8; omega) _, Blk.far hr (fun e => h8 e.symm) _, hk.setCell (p := ⟨G8, 1, none⟩) (.inr (by show w.heap.size ≤ G8; omega)) _⟩
set_option maxRecDepth 100000 in
set_option maxHeartbeats 8000000 in
theorem box9_no (gR : Nat) (p : Value) (A : Option Addr) (l : List Int) (c q : Nat) (x : Int) (hx : U64 x) (hk : unK x = 9) (hn : unN x = (q : Int)) (hy : unE x = 0) (hq : q ≤ l.length) (hl6 : l.length ≤ 65536) (hm : l.length < q + 2) (w : World) (h : Rdr w gR p A l.length c q false) :
    Calls Try.prog 41 #[.pointer (some ⟨gR, 0, none⟩), .int .u64 x] w (RdPost w gR p A l c none) := by
  have HUN := Lib.hid (show ∀ w : World, Calls Try.prog 59 #[.int .u64 x] w (fun e w' => e = .returned (.tuple #[.int .i64 9, .int .i64 (q : Int), .int .i64 0]) ∧ Below w.heap.size w w') from fun w => by
    have h := unpack_any x hx.1 hx.2 w
    rw [hk, hn, hy] at h
    exact h)
  have H := Lib.hid h
  have hgl : gR < w.heap.size := Blk.lt H.out
  have hz := Blk.new w 24 #[.int .i64 0, .int .i64 0, .string ⟨#[]⟩, .slice none 0 0]
  have hb0 := ballocs (Below.refl w.heap.size w) (.cells #[.int .i64 0, .int .i64 0, .string ⟨#[]⟩, .slice none 0 0] 24)
  have HZ := Lib.hid hz; have HB0 := Lib.hid hb0
  clear hz hb0 h hx hk hn hy 
  go_enter Try.func41, Try.ntmps41
  go_wp2_with fail
  obtain ⟨w1, hw1⟩ : ∃ x, w.alloc (.cells #[.int .i64 0, .int .i64 0, .string ⟨#[]⟩, .slice none 0 0] 24) = x := ⟨_, rfl⟩
  rw [hw1] at HZ HB0 ⊢
  clear hw1
  refine (HUN.out w1).mono ?_
  rintro e w2 ⟨rfl, hb2⟩
  have hr2 := (H.out.below HB0.out).below hb2
  have hz2 := HZ.out.below hb2 HZ.out.lt
  have hlt2 : gR < w2.heap.size := Blk.lt hr2
  have hlz2 : w.heap.size < w2.heap.size := hz2.lt
  obtain ⟨d0, d1, d2, d3, f2, f3⟩ := hr2.four
  have hb02 := fbelow HB0.out hb2
  have hne : gR ≠ w.heap.size := by omega
  have HB02 := Lib.hid hb02; have HR2 := Lib.hid hr2; have HZ2 := Lib.hid hz2
  clear hb2 hr2 hz2 hb02
  go_wp2_with fail
  have hb3 := ballocs (Below.refl w2.heap.size w2) (.cells #[.int .i64 9, .int .i64 0, .string ⟨#[]⟩, .slice none 0 0] 24)
  have hg8 := Blk.new w2 24 #[.int .i64 9, .int .i64 0, .string ⟨#[]⟩, .slice none 0 0]
  obtain ⟨w3, hw3⟩ : ∃ x, w2.alloc (.cells #[.int .i64 9, .int .i64 0, .string ⟨#[]⟩, .slice none 0 0] 24) = x := ⟨_, rfl⟩
  rw [hw3] at hb3 hg8 ⊢
  clear hw3
  have hr3 := HR2.out.below hb3
  have hz3 := HZ2.out.below hb3 HZ2.out.lt
  have hb03 := fbelow HB02.out hb3
  obtain ⟨G8, hG8⟩ : ∃ G8, w2.heap.size = G8 := ⟨_, rfl⟩
  rw [hG8] at hg8 hlt2 hlz2 ⊢
  have hn8 : G8 ≠ gR := by omega
  have hn81 : G8 ≠ w.heap.size := by omega
  have hn1 : ¬ (w.heap.size = gR) := fun e => hne e.symm
  have HR3 := Lib.hid hr3; have HZ3 := Lib.hid hz3; have HB03 := Lib.hid hb03; have HG8 := Lib.hid hg8
  clear hr3 hz3 hb03 hb3 hg8 hG8 d0 d1 d2 d3 f2 f3
  refine (take_no gR p A l.length c q 2 w3 HR3.out hl6 hq (by omega) hm).mono ?_
  rintro e w5 ⟨rfl, hr5, hk5⟩
  have hg5 := HG8.out.keep hk5 hn8
  have hz5 := HZ3.out.keep hk5 hn1
  obtain ⟨o0, o1, o2, o3, _, _, _, _⟩ := hg5.four
  obtain ⟨z0, z1, z2, z3, y0, y1, y2, y3⟩ := hz5.four
  have HZ5 := Lib.hid hz5
  have HK5 := Lib.hid ((Keep.new (F := fun b => b = gR) HB03.out).trans hk5 (fun _ _ h => h)); have HR5 := Lib.hid hr5
  clear hg5 hz5 hk5 hr5
  go_wp2_with fail
  go_loopw [100] (fun x wr => x = .int .i64 0 ∧ wr = w5) (fun x _ => 0)
  case atStart => exact ⟨rfl, rfl⟩
  case round =>
    obtain ⟨rfl, rfl⟩ := hrel
    go_wp2_with fail
    obtain ⟨r0, r1, r2, r3, _, _, _, _⟩ := (put4_blk HZ5.out (.int .i64 9) (.int .i64 0) (.string ⟨#[]⟩) (.slice none 0 0)).four
    unfold put4 at r0 r1 r2 r3
    refine bodyPost_ret (v := .agg #[.int .i64 9, .int .i64 0, .string ⟨#[]⟩, .slice none 0 0]) (by simp [results, Try.results41, go_sem, r0, r1, r2, r3]) rfl ?_
    exact rd_bad2 HK5.out HR5.out hgl
set_option maxRecDepth 100000 in
set_option maxHeartbeats 8000000 in
theorem box7_no (gR : Nat) (p : Value) (A : Option Addr) (l : List Int) (c q : Nat) (x : Int) (hx : U64 x) (hk : unK x = 7) (hn : unN x = (q : Int)) (hy : unE x = 0) (hq : q ≤ l.length) (hl6 : l.length ≤ 65536) (hU : ∀ x ∈ l, U64 x) (hlc : l.length ≤ c) (hA : A = none → c = 0) (g : Nat) (F : Nat → Prop) (Ts : List ByteArray) (hno : ∀ h, hdR l 7 q = some h → l.length < h.2.2 + h.2.1) (w : World) (henv : REnv w gR g F Ts A l) (h : Rdr w gR p A l.length c q false) :
    Calls Try.prog 41 #[.pointer (some ⟨gR, 0, none⟩), .int .u64 x] w (RdPost w gR p A l c none) := by
  have HUN := Lib.hid (show ∀ w : World, Calls Try.prog 59 #[.int .u64 x] w (fun e w' => e = .returned (.tuple #[.int .i64 7, .int .i64 (q : Int), .int .i64 0]) ∧ Below w.heap.size w w') from fun w => by
    have h := unpack_any x hx.1 hx.2 w
    rw [hk, hn, hy] at h
    exact h)
  have H := Lib.hid h
  have hgl : gR < w.heap.size := Blk.lt H.out
  have hz := Blk.new w 24 #[.int .i64 0, .int .i64 0, .string ⟨#[]⟩, .slice none 0 0]
  have hb0 := ballocs (Below.refl w.heap.size w) (.cells #[.int .i64 0, .int .i64 0, .string ⟨#[]⟩, .slice none 0 0] 24)
  have HZ := Lib.hid hz; have HB0 := Lib.hid hb0
  clear hz hb0 h hx hk hn hy 
  go_enter Try.func41, Try.ntmps41
  go_wp2_with fail
  obtain ⟨w1, hw1⟩ : ∃ x, w.alloc (.cells #[.int .i64 0, .int .i64 0, .string ⟨#[]⟩, .slice none 0 0] 24) = x := ⟨_, rfl⟩
  rw [hw1] at HZ HB0 ⊢
  clear hw1
  refine (HUN.out w1).mono ?_
  rintro e w2 ⟨rfl, hb2⟩
  have hr2 := (H.out.below HB0.out).below hb2
  have hz2 := HZ.out.below hb2 HZ.out.lt
  have hlt2 : gR < w2.heap.size := Blk.lt hr2
  have hlz2 : w.heap.size < w2.heap.size := hz2.lt
  obtain ⟨d0, d1, d2, d3, f2, f3⟩ := hr2.four
  have hb02 := fbelow HB0.out hb2
  have hne : gR ≠ w.heap.size := by omega
  have HB02 := Lib.hid hb02; have HR2 := Lib.hid hr2; have HZ2 := Lib.hid hz2
  clear hb2 hr2 hz2 hb02
  go_wp2_with fail
  have hb3 := ballocs (Below.refl w2.heap.size w2) (.cells #[.int .i64 7, .int .i64 0, .string ⟨#[]⟩, .slice none 0 0] 24)
  have hg8 := Blk.new w2 24 #[.int .i64 7, .int .i64 0, .string ⟨#[]⟩, .slice none 0 0]
  obtain ⟨w3, hw3⟩ : ∃ x, w2.alloc (.cells #[.int .i64 7, .int .i64 0, .string ⟨#[]⟩, .slice none 0 0] 24) = x := ⟨_, rfl⟩
  rw [hw3] at hb3 hg8 ⊢
  clear hw3
  have hr3 := HR2.out.below hb3
  have hz3 := HZ2.out.below hb3 HZ2.out.lt
  have hb03 := fbelow HB02.out hb3
  obtain ⟨G8, hG8⟩ : ∃ G8, w2.heap.size = G8 := ⟨_, rfl⟩
  rw [hG8] at hg8 hlt2 hlz2 ⊢
  have hn8 : G8 ≠ gR := by omega
  have hn81 : G8 ≠ w.heap.size := by omega
  have hn1 : ¬ (w.heap.size = gR) := fun e => hne e.symm
  have HR3 := Lib.hid hr3; have HZ3 := Lib.hid hz3; have HB03 := Lib.hid hb03; have HG8 := Lib.hid hg8
  clear hr3 hz3 hb03 hb3 hg8 hG8 d0 d1 d2 d3 f2 f3
  have hl3 := (henv.keep (Keep.new (F := fun b => b = gR) HB03.out)).2.2.1
  refine (head_any gR p A l c q 10 (by decide) w3 HR3.out hl3 hU hlc hA hl6 hq).mono ?_
  rintro e w4 ⟨hk4, (⟨x4, hx4, he4, hku4, rfl, hr4⟩ | ⟨hno4, rfl, q4, hr4⟩)⟩
  · obtain ⟨_, _, n1, n2, n3, _, _⟩ := un_facts he4
    rw [hku4] at n1 n2 n3
    have e1 : low 10 = 0 := rfl
    have e2 : high 10 = 64 := rfl
    obtain ⟨m, hm⟩ : ∃ m : Nat, unN x4 = (m : Int) := ⟨(unN x4).toNat, by omega⟩
    rw [hm] at n1 n2 n3 ⊢
    rw [e1] at n1
    rw [e2] at n2
    have hh := hno (0, m, q + 1) (by unfold hdR; rw [if_neg (by decide), hx4]; simp only; rw [if_pos ⟨he4, by rw [hku4]; rfl⟩, hm]; rfl)
    simp only at hh
    have hg4 := HG8.out.keep hk4 hn8
    have hz4 := HZ3.out.keep hk4 hn1
    have HK4 := Lib.hid (((Keep.new (F := fun b => b = gR) HB03.out)).trans hk4 (fun _ _ h => h))
    have HG4 := Lib.hid hg4; have HZ4 := Lib.hid hz4; have HR4 := Lib.hid hr4
    obtain ⟨o0, o1, o2, o3, u0, u1, u2, u3⟩ := hg4.four
    have hlt4 : gR < w4.heap.size := Blk.lt hr4
    have h84 : G8 < w4.heap.size := hg4.lt
    clear hg4 hz4 hr4 hk4 hno hU hl3 e1 e2
    go_wp2_with fail
    refine (take_no gR p A l.length c (q + 1) m w4 HR4.out hl6 (by have := (List.getElem?_eq_some_iff.1 hx4).1; omega) (by omega) hh).mono ?_
    rintro e w5 ⟨rfl, hr5, hk5⟩
    have hg5 := HG4.out.keep hk5 hn8
    have hz5 := HZ4.out.keep hk5 hn1
    obtain ⟨o0, o1, o2, o3, _, _, _, _⟩ := hg5.four
    obtain ⟨z0, z1, z2, z3, y0, y1, y2, y3⟩ := hz5.four
    have HZ5 := Lib.hid hz5
    have HK5 := Lib.hid (HK4.out.trans hk5 (fun _ _ h => h)); have HR5 := Lib.hid hr5
    clear hg5 hz5 hk5 hr5
    go_wp2_with fail
    go_loopw [100] (fun x wr => x = .int .i64 0 ∧ wr = w5) (fun x _ => 0)
    case atStart => exact ⟨rfl, rfl⟩
    case round =>
      obtain ⟨rfl, rfl⟩ := hrel
      go_wp2_with fail
      obtain ⟨r0, r1, r2, r3, _, _, _, _⟩ := (put4_blk HZ5.out (.int .i64 7) (.int .i64 0) (.string ⟨#[]⟩) (.slice none 0 0)).four
      unfold put4 at r0 r1 r2 r3
      refine bodyPost_ret (v := .agg #[.int .i64 7, .int .i64 0, .string ⟨#[]⟩, .slice none 0 0]) (by simp [results, Try.results41, go_sem, r0, r1, r2, r3]) rfl ?_
      exact rd_bad2 HK5.out HR5.out hgl
  · have hg4 := HG8.out.keep hk4 hn8
    have hz4 := HZ3.out.keep hk4 hn1
    have HK4 := Lib.hid (((Keep.new (F := fun b => b = gR) HB03.out)).trans hk4 (fun _ _ h => h))
    have HG4 := Lib.hid hg4; have HZ4 := Lib.hid hz4; have HR4 := Lib.hid hr4
    obtain ⟨o0, o1, o2, o3, u0, u1, u2, u3⟩ := hg4.four
    have hlt4 : gR < w4.heap.size := Blk.lt hr4
    have h84 : G8 < w4.heap.size := hg4.lt
    clear hg4 hz4 hr4 hk4 hno hU hl3 hno4
    go_wp2_with fail
    refine (take_bad gR p A l.length c q4 0 w4 HR4.out).mono ?_
    rintro e w5 ⟨rfl, hr5, hk5⟩
    have hg5 := HG4.out.keep hk5 hn8
    have hz5 := HZ4.out.keep hk5 hn1
    obtain ⟨o0, o1, o2, o3, _, _, _, _⟩ := hg5.four
    obtain ⟨z0, z1, z2, z3, y0, y1, y2, y3⟩ := hz5.four
    have HZ5 := Lib.hid hz5
    have HK5 := Lib.hid (HK4.out.trans hk5 (fun _ _ h => h)); have HR5 := Lib.hid hr5
    clear hg5 hz5 hk5 hr5
    go_wp2_with fail
    go_loopw [100] (fun x wr => x = .int .i64 0 ∧ wr = w5) (fun x _ => 0)
    case atStart => exact ⟨rfl, rfl⟩
    case round =>
      obtain ⟨rfl, rfl⟩ := hrel
      go_wp2_with fail
      obtain ⟨r0, r1, r2, r3, _, _, _, _⟩ := (put4_blk HZ5.out (.int .i64 7) (.int .i64 0) (.string ⟨#[]⟩) (.slice none 0 0)).four
      unfold put4 at r0 r1 r2 r3
      refine bodyPost_ret (v := .agg #[.int .i64 7, .int .i64 0, .string ⟨#[]⟩, .slice none 0 0]) (by simp [results, Try.results41, go_sem, r0, r1, r2, r3]) rfl ?_
      exact rd_bad2 HK5.out HR5.out hgl
set_option maxRecDepth 100000 in
set_option maxHeartbeats 8000000 in
theorem box5_no (gR : Nat) (p : Value) (A : Option Addr) (l : List Int) (c q : Nat) (x : Int) (hx : U64 x) (hk : unK x = 5) (hn : unN x = (q : Int)) (hy : unE x = 0) (hq : q ≤ l.length) (hl6 : l.length ≤ 65536) (hU : ∀ x ∈ l, U64 x) (hlc : l.length ≤ c) (hA : A = none → c = 0) (g : Nat) (F : Nat → Prop) (Ts : List ByteArray) (hno : ∀ h, hdR l 5 q = some h → l.length < h.2.2 + h.2.1) (w : World) (henv : REnv w gR g F Ts A l) (h : Rdr w gR p A l.length c q false) :
    Calls Try.prog 41 #[.pointer (some ⟨gR, 0, none⟩), .int .u64 x] w (RdPost w gR p A l c none) := by
  have HUN := Lib.hid (show ∀ w : World, Calls Try.prog 59 #[.int .u64 x] w (fun e w' => e = .returned (.tuple #[.int .i64 5, .int .i64 (q : Int), .int .i64 0]) ∧ Below w.heap.size w w') from fun w => by
    have h := unpack_any x hx.1 hx.2 w
    rw [hk, hn, hy] at h
    exact h)
  have H := Lib.hid h
  have hgl : gR < w.heap.size := Blk.lt H.out
  have hz := Blk.new w 24 #[.int .i64 0, .int .i64 0, .string ⟨#[]⟩, .slice none 0 0]
  have hb0 := ballocs (Below.refl w.heap.size w) (.cells #[.int .i64 0, .int .i64 0, .string ⟨#[]⟩, .slice none 0 0] 24)
  have HZ := Lib.hid hz; have HB0 := Lib.hid hb0
  clear hz hb0 h hx hk hn hy 
  go_enter Try.func41, Try.ntmps41
  go_wp2_with fail
  obtain ⟨w1, hw1⟩ : ∃ x, w.alloc (.cells #[.int .i64 0, .int .i64 0, .string ⟨#[]⟩, .slice none 0 0] 24) = x := ⟨_, rfl⟩
  rw [hw1] at HZ HB0 ⊢
  clear hw1
  refine (HUN.out w1).mono ?_
  rintro e w2 ⟨rfl, hb2⟩
  have hr2 := (H.out.below HB0.out).below hb2
  have hz2 := HZ.out.below hb2 HZ.out.lt
  have hlt2 : gR < w2.heap.size := Blk.lt hr2
  have hlz2 : w.heap.size < w2.heap.size := hz2.lt
  obtain ⟨d0, d1, d2, d3, f2, f3⟩ := hr2.four
  have hb02 := fbelow HB0.out hb2
  have hne : gR ≠ w.heap.size := by omega
  have HB02 := Lib.hid hb02; have HR2 := Lib.hid hr2; have HZ2 := Lib.hid hz2
  clear hb2 hr2 hz2 hb02
  go_wp2_with fail
  have hb3 := ballocs (Below.refl w2.heap.size w2) (.cells #[.int .i64 5, .int .i64 0, .string ⟨#[]⟩, .slice none 0 0] 24)
  have hg8 := Blk.new w2 24 #[.int .i64 5, .int .i64 0, .string ⟨#[]⟩, .slice none 0 0]
  obtain ⟨w3, hw3⟩ : ∃ x, w2.alloc (.cells #[.int .i64 5, .int .i64 0, .string ⟨#[]⟩, .slice none 0 0] 24) = x := ⟨_, rfl⟩
  rw [hw3] at hb3 hg8 ⊢
  clear hw3
  have hr3 := HR2.out.below hb3
  have hz3 := HZ2.out.below hb3 HZ2.out.lt
  have hb03 := fbelow HB02.out hb3
  obtain ⟨G8, hG8⟩ : ∃ G8, w2.heap.size = G8 := ⟨_, rfl⟩
  rw [hG8] at hg8 hlt2 hlz2 ⊢
  have hn8 : G8 ≠ gR := by omega
  have hn81 : G8 ≠ w.heap.size := by omega
  have hn1 : ¬ (w.heap.size = gR) := fun e => hne e.symm
  have HR3 := Lib.hid hr3; have HZ3 := Lib.hid hz3; have HB03 := Lib.hid hb03; have HG8 := Lib.hid hg8
  clear hr3 hz3 hb03 hb3 hg8 hG8 d0 d1 d2 d3 f2 f3
  have hl3 := (henv.keep (Keep.new (F := fun b => b = gR) HB03.out)).2.2.1
  refine (head_any gR p A l c q 11 (by decide) w3 HR3.out hl3 hU hlc hA hl6 hq).mono ?_
  rintro e w4 ⟨hk4, (⟨x4, hx4, he4, hku4, rfl, hr4⟩ | ⟨hno4, rfl, q4, hr4⟩)⟩
  · obtain ⟨_, _, n1, n2, n3, _, _⟩ := un_facts he4
    rw [hku4] at n1 n2 n3
    have e1 : low 11 = 0 := rfl
    have e2 : high 11 = 137438953536 := rfl
    obtain ⟨m, hm⟩ : ∃ m : Nat, unN x4 = (m : Int) := ⟨(unN x4).toNat, by omega⟩
    rw [hm] at n1 n2 n3 ⊢
    rw [e1] at n1
    rw [e2] at n2
    have hh := hno ((m : Int) / 128, ((m : Int) % 128).toNat, q + 1) (by unfold hdR; rw [if_neg (by decide), hx4]; simp only; rw [if_pos ⟨he4, by rw [hku4]; rfl⟩, hm]; rfl)
    simp only at hh
    have hg4 := HG8.out.keep hk4 hn8
    have hz4 := HZ3.out.keep hk4 hn1
    have HK4 := Lib.hid (((Keep.new (F := fun b => b = gR) HB03.out)).trans hk4 (fun _ _ h => h))
    have HG4 := Lib.hid hg4; have HZ4 := Lib.hid hz4; have HR4 := Lib.hid hr4
    obtain ⟨o0, o1, o2, o3, u0, u1, u2, u3⟩ := hg4.four
    have hlt4 : gR < w4.heap.size := Blk.lt hr4
    have h84 : G8 < w4.heap.size := hg4.lt
    clear hg4 hz4 hr4 hk4 hno hU hl3 e1 e2
    go_wp2_with fail
    obtain ⟨a, ha⟩ : ∃ a : Nat, (m : Int) / 128 = (a : Int) := ⟨m / 128, by omega⟩
    obtain ⟨b, hb⟩ : ∃ b : Nat, (m : Int) % 128 = (b : Int) := ⟨m % 128, by omega⟩
    have hb7 : b < 128 := by omega
    rw [ha, hb]
    rw [hb, Int.toNat_natCast] at hh
    obtain ⟨hg41, hz41, hr41, hk41⟩ := store8 (v := .int .i64 (a : Int)) HG4.out HZ4.out HR4.out HK4.out hn8 hlz2
    obtain ⟨w41, hw41⟩ : ∃ x, w4.setCell ⟨G8, 1, none⟩ (.int .i64 (a : Int)) = x := ⟨_, rfl⟩
    rw [hw41] at hg41 hz41 hr41 hk41 ⊢
    clear hw41 HG4 HZ4 HR4 HK4 o0 o1 o2 o3 u0 u1 u2 u3
    have HG4 := Lib.hid hg41; have HZ4 := Lib.hid hz41; have HR4 := Lib.hid hr41; have HK4 := Lib.hid hk41
    clear hg41 hz41 hr41 hk41
    refine (take_no gR p A l.length c (q + 1) b w41 HR4.out hl6 (by have := (List.getElem?_eq_some_iff.1 hx4).1; omega) (by omega) hh).mono ?_
    rintro e w5 ⟨rfl, hr5, hk5⟩
    have hg5 := HG4.out.keep hk5 hn8
    have hz5 := HZ4.out.keep hk5 hn1
    obtain ⟨o0, o1, o2, o3, _, _, _, _⟩ := hg5.four
    obtain ⟨z0, z1, z2, z3, y0, y1, y2, y3⟩ := hz5.four
    have HZ5 := Lib.hid hz5
    have HK5 := Lib.hid (HK4.out.trans hk5 (fun _ _ h => h)); have HR5 := Lib.hid hr5
    clear hg5 hz5 hk5 hr5
    go_wp2_with fail
    go_loopw [100] (fun x wr => x = .int .i64 0 ∧ wr = w5) (fun x _ => 0)
    case atStart => exact ⟨rfl, rfl⟩
    case round =>
      obtain ⟨rfl, rfl⟩ := hrel
      go_wp2_with fail
      obtain ⟨r0, r1, r2, r3, _, _, _, _⟩ := (put4_blk HZ5.out (.int .i64 5) (.int .i64 a) (.string ⟨#[]⟩) (.slice none 0 0)).four
      unfold put4 at r0 r1 r2 r3
      refine bodyPost_ret (v := .agg #[.int .i64 5, .int .i64 a, .string ⟨#[]⟩, .slice none 0 0]) (by simp [results, Try.results41, go_sem, r0, r1, r2, r3]) rfl ?_
      exact rd_bad2 HK5.out HR5.out hgl
  · have hg4 := HG8.out.keep hk4 hn8
    have hz4 := HZ3.out.keep hk4 hn1
    have HK4 := Lib.hid (((Keep.new (F := fun b => b = gR) HB03.out)).trans hk4 (fun _ _ h => h))
    have HG4 := Lib.hid hg4; have HZ4 := Lib.hid hz4; have HR4 := Lib.hid hr4
    obtain ⟨o0, o1, o2, o3, u0, u1, u2, u3⟩ := hg4.four
    have hlt4 : gR < w4.heap.size := Blk.lt hr4
    have h84 : G8 < w4.heap.size := hg4.lt
    clear hg4 hz4 hr4 hk4 hno hU hl3 hno4
    go_wp2_with fail
    obtain ⟨hg41, hz41, hr41, hk41⟩ := store8 (v := .int .i64 0) HG4.out HZ4.out HR4.out HK4.out hn8 hlz2
    obtain ⟨w41, hw41⟩ : ∃ x, w4.setCell ⟨G8, 1, none⟩ (.int .i64 0) = x := ⟨_, rfl⟩
    rw [hw41] at hg41 hz41 hr41 hk41 ⊢
    clear hw41 HG4 HZ4 HR4 HK4 o0 o1 o2 o3 u0 u1 u2 u3
    have HG4 := Lib.hid hg41; have HZ4 := Lib.hid hz41; have HR4 := Lib.hid hr41; have HK4 := Lib.hid hk41
    clear hg41 hz41 hr41 hk41
    refine (take_bad gR p A l.length c q4 0 w41 HR4.out).mono ?_
    rintro e w5 ⟨rfl, hr5, hk5⟩
    have hg5 := HG4.out.keep hk5 hn8
    have hz5 := HZ4.out.keep hk5 hn1
    obtain ⟨o0, o1, o2, o3, _, _, _, _⟩ := hg5.four
    obtain ⟨z0, z1, z2, z3, y0, y1, y2, y3⟩ := hz5.four
    have HZ5 := Lib.hid hz5
    have HK5 := Lib.hid (HK4.out.trans hk5 (fun _ _ h => h)); have HR5 := Lib.hid hr5
    clear hg5 hz5 hk5 hr5
    go_wp2_with fail
    go_loopw [100] (fun x wr => x = .int .i64 0 ∧ wr = w5) (fun x _ => 0)
    case atStart => exact ⟨rfl, rfl⟩
    case round =>
      obtain ⟨rfl, rfl⟩ := hrel
      go_wp2_with fail
      obtain ⟨r0, r1, r2, r3, _, _, _, _⟩ := (put4_blk HZ5.out (.int .i64 5) (.int .i64 0) (.string ⟨#[]⟩) (.slice none 0 0)).four
      unfold put4 at r0 r1 r2 r3
      refine bodyPost_ret (v := .agg #[.int .i64 5, .int .i64 0, .string ⟨#[]⟩, .slice none 0 0]) (by simp [results, Try.results41, go_sem, r0, r1, r2, r3]) rfl ?_
      exact rd_bad2 HK5.out HR5.out hgl
theorem trow_keepF {F Q : Nat → Prop} {w w' : World} {B : Nat} {v : Value} {l : List Tm} (h : TRow w B Q v l) (hk : Keep F w w') (hB : ∀ b, B ≤ b → ¬ F b) (hQ : ∀ b, Q b → ¬ F b) : TRow w' B Q v l := by
  obtain ⟨G, vs, hV, hG, hR⟩ := h
  exact ⟨G, vs, hV.keep fun p hp => hk.cell (hG _ hp).1 (hQ _ (hG _ hp).2.1), fun b hb => ⟨Nat.lt_of_lt_of_le (hG b hb).1 hk.size, (hG b hb).2⟩, ownsRow_keep hR hk (fun r hr => hB r (hR.lt r hr).1)⟩
abbrev tz : Array Value := #[.int .i64 0, .int .i64 0, .string ⟨#[]⟩, .slice none 0 0]
/-- Each answer of a reading has a term's form; whether it went well is told apart. -/
theorem RdPost.form {w : World} {gR : Nat} {p : Value} {A : Option Addr} {l : List Int} {c : Nat} {r : Option (Tm × Nat)} {e : Ending} {w' : World} (h : RdPost w gR p A l c r e w') :
    ∃ k n s A1 m c1, e = .returned (.agg #[.int .i64 k, .int .i64 n, .string s, .slice A1 m c1]) ∧ Keep (fun b => b = gR) w w' ∧
      ((∃ t q, r = some (t, q) ∧ TAt w' (Fr w w') t (.agg #[.int .i64 k, .int .i64 n, .string s, .slice A1 m c1]) ∧ Rdr w' gR p A l.length c (q : Int) false) ∨ (r = none ∧ ∃ q' : Int, Rdr w' gR p A l.length c q' true)) := by
  obtain ⟨hk, h⟩ := h
  cases r with
  | some x =>
    obtain ⟨v, rfl, ht, hr⟩ := h
    obtain ⟨A1, c1, rfl, _, _⟩ := ht.inv
    exact ⟨_, _, _, _, _, _, rfl, hk, .inl ⟨x.1, x.2, rfl, ht, hr⟩⟩
  | none =>
    obtain ⟨⟨k, n, s, A1, m, c1, rfl⟩, hq⟩ := h
    exact ⟨k, n, s, A1, m, c1, rfl, hk, .inr ⟨rfl, hq⟩⟩
/-- In the loop: i words have been read. -/
def RdI (w wr : World) (gR : Nat) (p : Value) (A : Option Addr) (l : List Int) (c : Nat) (rd : Int → Nat → Option (Tm × Nat)) (ws : List Int) (q0 G8 : Nat) (k n : Int) (i : Nat) : Prop :=
  ∃ row ts qi, rdL rd (ws.take i) q0 = some (ts, qi) ∧ q0 ≤ qi ∧ qi ≤ l.length ∧ Rdr wr gR p A l.length c (qi : Int) false ∧ Blk wr w.heap.size 24 tz ∧ Blk wr G8 24 #[.int .i64 k, .int .i64 n, .string ⟨#[]⟩, row] ∧ TRow wr (G8 + 1) (fun b => G8 + 1 ≤ b) row ts ∧ Keep (fun b => b = gR) w wr
section
variable {w wr w6 w3 : World} {gR G8 c q0 qi qj i : Nat} {p : Value} {A A3 A5 A6 : Option Addr} {c3 c5 l6 c6 : Nat} {l ws : List Int} {k n k6 m6 : Int} {s6 : ByteArray} {ts : List Tm} {t : Tm} {u : Int} {rd : Int → Nat → Option (Tm × Nat)} {o : Obj}
/-- What the round's end keeps. -/
theorem round_keeps (hgR : gR < w.heap.size) (hG8 : w.heap.size < G8) (hz : Blk wr w.heap.size 24 tz) (hg : Blk wr G8 24 #[.int .i64 k, .int .i64 n, .string ⟨#[]⟩, .slice A3 ts.length c3]) (hk : Keep (fun b => b = gR) w wr) (hk6 : Keep (fun b => b = gR) wr w6)
    (hg3 : (w6.alloc o).grownBy w3 (Value.slice A3 ts.length c3).ownBlock) (hrow : ∀ r, (Value.slice A3 ts.length c3).ownBlock = some r → G8 + 1 ≤ r ∧ r < wr.heap.size) (v : Value) :
    Blk (w3.setCell ⟨G8, 3, none⟩ v) w.heap.size 24 tz ∧ Blk (w3.setCell ⟨G8, 3, none⟩ v) G8 24 #[.int .i64 k, .int .i64 n, .string ⟨#[]⟩, v] ∧ Keep (fun b => b = gR) w (w3.setCell ⟨G8, 3, none⟩ v) ∧
      (∀ q b, Rdr w6 gR p A l.length c q b → Rdr (w3.setCell ⟨G8, 3, none⟩ v) gR p A l.length c q b) := by
  have hl8 := hg.lt
  refine ⟨?_, ?_, ?_, fun q b hr => ?_⟩
  · exact (((hz.keep hk6 (fun (e : w.heap.size = gR) => by omega)).alloc o).grown hg3 (fun e => by have := (hrow _ e.symm).1; omega)).far (by show w.heap.size ≠ G8; omega) _
  · have := (((hg.keep hk6 (fun (e : G8 = gR) => by omega)).alloc o).grown hg3 (fun e => by have := (hrow _ e.symm).1; omega)).set_ 3 v
    simpa using this
  · have h1 := ((hk.trans hk6 (fun _ _ h => h)).alloc o).grown hg3 (fun r hr => .inr (by have := (hrow r hr).1; omega))
    exact h1.setCell (p := ⟨G8, 3, none⟩) (.inr (by show w.heap.size ≤ G8; omega)) _
  · exact ((Blk.alloc hr o).grown hg3 (fun e => by have := (hrow _ e.symm).1; omega)).far (by show gR ≠ G8; omega) _
/-- One more word has been read. -/
theorem RdI.step {G : Nat → Prop} {vs : List Value} (hgR : gR < w.heap.size) (hG8 : w.heap.size < G8)
    (hfl : rdL rd (ws.take i) q0 = some (ts, qi)) (hq0 : q0 ≤ qi) (hu : ws[i]? = some u) (ho : rd u qi = some (t, qj)) (hij : qi ≤ qj) (hj : qj ≤ l.length)
    (hz : Blk wr w.heap.size 24 tz) (hg : Blk wr G8 24 #[.int .i64 k, .int .i64 n, .string ⟨#[]⟩, .slice A3 ts.length c3]) (hk : Keep (fun b => b = gR) w wr)
    (hV : TsVs wr G ts vs) (hG : ∀ b, G b → b < wr.heap.size ∧ G8 + 1 ≤ b ∧ (Value.slice A3 ts.length c3).ownBlock ≠ some b) (hRw : wr.ownsRow (G8 + 1) 24 4 (.slice A3 ts.length c3) ts.length (K.flat vs))
    (hk6 : Keep (fun b => b = gR) wr w6) (ht : TAt w6 (Fr wr w6) t (.agg #[.int .i64 k6, .int .i64 m6, .string s6, .slice A6 l6 c6])) (hr6 : Rdr w6 gR p A l.length c (qj : Int) false)
    (hg3 : (w6.alloc o).grownBy w3 (Value.slice A3 ts.length c3).ownBlock) (hR3 : w3.ownsRow (G8 + 1) 24 4 (.slice A5 (ts.length + 1) c5) (ts.length + 1) (K.flat vs ++ [.int .i64 k6, .int .i64 m6, .string s6, .slice A6 l6 c6]))
    (hat3 : (Value.slice A5 (ts.length + 1) c5).ownBlock = (Value.slice A3 ts.length c3).ownBlock ∨ (Value.slice A5 (ts.length + 1) c5).ownBlock = some (w6.alloc o).heap.size) :
    RdI w (w3.setCell ⟨G8, 3, none⟩ (.slice A5 (ts.length + 1) c5)) gR p A l c rd ws q0 G8 k n (i + 1) := by
  have hl8 := hg.lt
  obtain ⟨h1, h2, h3, h4⟩ := round_keeps (p := p) (A := A) (l := l) (c := c) hgR hG8 hz hg hk hk6 hg3 (fun r hr => hRw.lt r hr) (.slice A5 (ts.length + 1) c5)
  have h6 := hk6.size
  have hT := TRow.snoc (w := w6) (B := G8 + 1) (Q := fun b => G8 + 1 ≤ b) (hV.keep fun p hp => hk6.cell (hG _ hp).1 (fun (e : p.block = gR) => by have := (hG _ hp).2.1; omega)) (fun b hb => ⟨Nat.lt_of_lt_of_le (hG b hb).1 h6, (hG b hb).2⟩) ht (fun b hb => ⟨hb.2, by have := hb.1; omega, fun e => by
    have := (hRw.lt b e).2
    have := hb.1
    omega⟩) hg3 hR3 hat3
  have hks : Keep (fun x => x = G8) w3 (w3.setCell ⟨G8, 3, none⟩ (.slice A5 (ts.length + 1) c5)) := (Keep.refl (fun x => x = G8) w3).setCell (p := ⟨G8, 3, none⟩) (.inl rfl) _
  exact ⟨_, ts ++ [t], qj, by rw [rdL_snoc rd q0 hu, hfl]; simp only [ho], by omega, hj, h4 _ _ hr6, h1, h2, trow_keepF hT hks (fun b h e => by omega) (fun b h e => by omega), h3⟩
/-- All words have been read. -/
theorem RdI.done (hgR : gR < w.heap.size) (hG8 : w.heap.size < G8) (hk1 : (Lit.int .i64 k).wf = true) (hn1 : (Lit.int .i64 n).wf = true)
    (hr : Rdr wr gR p A l.length c (qi : Int) false) (hrow : TRow wr (G8 + 1) (fun b => G8 + 1 ≤ b) (.slice A3 ts.length c3) ts) (hk : Keep (fun b => b = gR) w wr) :
    RdPost w gR p A l c (some (.mk k n ⟨#[]⟩ ts, qi)) (.returned (.agg #[.int .i64 k, .int .i64 n, .string ⟨#[]⟩, .slice A3 ts.length c3])) (put4 wr w.heap.size (.int .i64 k) (.int .i64 n) (.string ⟨#[]⟩) (.slice A3 ts.length c3)) := by
  have hkp := put4_keep (Keep.refl (fun x => x = w.heap.size) wr) (g := w.heap.size) (.inl rfl) (.int .i64 k) (.int .i64 n) (.string ⟨#[]⟩) (.slice A3 ts.length c3)
  have hr1 := trow_keepF hrow hkp (fun b h e => by omega) (fun b h e => by omega)
  obtain ⟨A', c', e, h1, h2, h3, hts⟩ := hr1.slAt (F := Fr w (put4 wr w.heap.size (.int .i64 k) (.int .i64 n) (.string ⟨#[]⟩) (.slice A3 ts.length c3))) (fun b h1 h2 => ⟨by omega, h1⟩) (fun b h1 h2 => ⟨by omega, h1⟩)
  injection e with e1 e2 e3
  subst e1 e3
  have hne : gR ≠ w.heap.size := by omega
  exact ⟨put4_keep hk (.inr (Nat.le_refl _)) _ _ _ _, _, rfl, TAt.of (t := .mk k n ⟨#[]⟩ ts) ⟨hk1, hn1, by show (0 : Nat) ≤ _; exact Nat.zero_le _, h1, h2, h3⟩ hts, (((Blk.far hr hne _).far hne _).far hne _).far hne _⟩
end
end Go.Proofs.Ytfcialleekfjmaa.Fl
