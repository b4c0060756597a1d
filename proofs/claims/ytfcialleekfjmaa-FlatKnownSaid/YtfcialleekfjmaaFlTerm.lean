/- flat.reader's term, by a contract: its leaves and faults. -/
import Derived.Test.YtfcialleekfjmaaFlTake
import Derived.Test.YtfcialleekfjmaaFlFlat
namespace Go.Proofs.Ytfcialleekfjmaa.Fl
open Go.RowKit K At Wd
set_option linter.unusedVariables false
set_option linter.unusedSimpArgs false

/-- What a reader needs that stays: the table of atoms, and the words. -/
def REnv (w : World) (gR g : Nat) (F : Nat → Prop) (T : List ByteArray) (A : Option Addr) (l : List Int) : Prop := Tab w F g T ∧ ¬ F gR ∧ Reads w gR 1 A l.length (u64s l) ∧ gR < w.heap.size
theorem REnv.keep {w w' : World} {gR g : Nat} {F : Nat → Prop} {T : List ByteArray} {A : Option Addr} {l : List Int} (h : REnv w gR g F T A l) (hk : Keep (fun b => b = gR) w w') : REnv w' gR g F T A l := by
  obtain ⟨h1, h2, h3, h4⟩ := h
  exact ⟨h1.keep hk (fun r hr e => h2 (e ▸ hr)), h2, h3.keepF (Nat.le_of_lt h4) hk (fun i hi e => by omega), Nat.lt_of_lt_of_le h4 hk.size⟩
/-- What a reading answers. -/
def RdPost (w : World) (gR : Nat) (p : Value) (A : Option Addr) (l : List Int) (c : Nat) (r : Option (Tm × Nat)) (e : Ending) (w' : World) : Prop :=
  Keep (fun b => b = gR) w w' ∧ match r with
    | some x => ∃ v, e = .returned v ∧ TAt w' (Fr w w') x.1 v ∧ Rdr w' gR p A l.length c (x.2 : Int) false
    | none => (∃ k n s A1 m c1, e = .returned (.agg #[.int .i64 k, .int .i64 n, .string s, .slice A1 m c1])) ∧ ∃ q' : Int, Rdr w' gR p A l.length c q' true
/-- The world at a return: the result's cells are written, and one more box. -/
theorem rd_world {w w2 : World} {gR : Nat} {p : Value} {A : Option Addr} {N c : Nat} {q : Int} {b : Bool} (hb : Below w.heap.size w w2) (hr : Rdr w2 gR p A N c q b) (hg : gR < w.heap.size) (x0 x1 x2 x3 : Value) (o : Obj) :
    Keep (fun b => b = gR) w ((put4 w2 w.heap.size x0 x1 x2 x3).alloc o) ∧ Rdr ((put4 w2 w.heap.size x0 x1 x2 x3).alloc o) gR p A N c q b := by
  have hne : gR ≠ w.heap.size := by omega
  exact ⟨(((((Keep.new (F := fun b => b = gR) hb).setCell (p := ⟨w.heap.size, 0, none⟩) (.inr (Nat.le_refl _)) _).setCell (p := ⟨w.heap.size, 1, none⟩) (.inr (Nat.le_refl _)) _).setCell (p := ⟨w.heap.size, 2, none⟩) (.inr (Nat.le_refl _)) _).setCell (p := ⟨w.heap.size, 3, none⟩) (.inr (Nat.le_refl _)) _).alloc o,
    ((((Blk.far hr hne _).far hne _).far hne _).far hne _).alloc o⟩
theorem rd_leaf {w w2 : World} {gR : Nat} {p : Value} {A : Option Addr} {l : List Int} {c q : Nat} {k n : Int} {o : Obj} (hb : Below w.heap.size w w2) (hr : Rdr w2 gR p A l.length c q false) (hg : gR < w.heap.size) (hk : (Lit.int .i64 k).wf = true) (hn : (Lit.int .i64 n).wf = true) :
    RdPost w gR p A l c (some (.mk k n ⟨#[]⟩ [], q)) (.returned (.agg #[.int .i64 k, .int .i64 n, .string ⟨#[]⟩, .slice none 0 0])) ((put4 w2 w.heap.size (.int .i64 k) (.int .i64 n) (.string ⟨#[]⟩) (.slice none 0 0)).alloc o) := by
  obtain ⟨h1, h2⟩ := rd_world hb hr hg (.int .i64 k) (.int .i64 n) (.string ⟨#[]⟩) (.slice none 0 0) o
  exact ⟨h1, _, rfl, TAt.of (t := .mk k n ⟨#[]⟩ []) (A := none) (c := 0) ⟨hk, hn, by show (0 : Nat) ≤ _; exact Nat.zero_le _, Nat.le_refl _, Nat.zero_le _, fun _ => rfl⟩ (TsAt.nil _ _ _), h2⟩
set_option maxRecDepth 100000 in
set_option maxHeartbeats 8000000 in
theorem term_leaf (gR : Nat) (p : Value) (A : Option Addr) (l : List Int) (c q : Nat) (x k n : Int) (hx : U64 x) (hk : unK x = k) (hn : unN x = n) (he : unE x = 0) (hlf : leafK k) (w : World) (h : Rdr w gR p A l.length c q false) :
    Calls Try.prog 41 #[.pointer (some ⟨gR, 0, none⟩), .int .u64 x] w (RdPost w gR p A l c (some (.mk k n ⟨#[]⟩ [], q))) := by
  have HUN := Lib.hid (show ∀ w : World, Calls Try.prog 59 #[.int .u64 x] w (fun e w' => e = .returned (.tuple #[.int .i64 k, .int .i64 n, .int .i64 0]) ∧ Below w.heap.size w w') from fun w => by
    have h := unpack_any x hx.1 hx.2 w
    rw [hk, hn, he] at h
    exact h)
  have H := Lib.hid h
  have HX := Lib.hid hx
  have HK := Lib.hid hk
  have hwn : (Lit.int .i64 n).wf = true := by
    have h := un_facts he
    rw [hk, hn] at h
    obtain ⟨_, _, h3, h4, _⟩ := h
    refine WalkArith.wf_i64 ?_
    rcases hlf with rfl | rfl | rfl | rfl | rfl
    · have e1 : low 1 = -576460752303423488 := rfl
      have e2 : high 1 = 576460752303423487 := rfl
      omega
    · have e1 : low 3 = 0 := rfl
      have e2 : high 3 = 1073741824 := rfl
      omega
    · have e1 : low 4 = 0 := rfl
      have e2 : high 4 = 1073741824 := rfl
      omega
    · have e1 : low 6 = 0 := rfl
      have e2 : high 6 = 1073741824 := rfl
      omega
    · have e1 : low 8 = 0 := rfl
      have e2 : high 8 = 0 := rfl
      omega
  clear h hx hk hn he
  have hgl : gR < w.heap.size := Blk.lt H.out
  have hz := Blk.new w 24 #[.int .i64 0, .int .i64 0, .string ⟨#[]⟩, .slice none 0 0]
  have hb0 := ballocs (Below.refl w.heap.size w) (.cells #[.int .i64 0, .int .i64 0, .string ⟨#[]⟩, .slice none 0 0] 24)
  have HZ := Lib.hid hz; have HB0 := Lib.hid hb0
  clear hz hb0
  rcases hlf with rfl | rfl | rfl | rfl | rfl
  · go_enter Try.func41, Try.ntmps41
    go_wp2_with fail
    obtain ⟨w1, hw1⟩ : ∃ x, w.alloc (.cells #[.int .i64 0, .int .i64 0, .string ⟨#[]⟩, .slice none 0 0] 24) = x := ⟨_, rfl⟩
    rw [hw1] at HZ HB0 ⊢
    clear hw1
    refine (HUN.out w1).mono ?_
    rintro e w2 ⟨rfl, hb2⟩
    have hr2 := (H.out.below HB0.out).below hb2
    have hz2 := HZ.out.below hb2 HZ.out.lt
    have hlt2 : gR < w2.heap.size := Blk.lt hr2
    have hlz2 : w.heap.size < w2.heap.size := hz2.lt
    obtain ⟨d0, d1, d2, d3, f2, f3⟩ := hr2.four
    obtain ⟨z0, z1, z2, z3, y0, y1, y2, y3⟩ := hz2.four
    have hb02 := fbelow HB0.out hb2
    have HB02 := Lib.hid hb02; have HR2 := Lib.hid hr2; have HZ2 := Lib.hid hz2
    clear hb2 hr2 hz2 hb02
    go_wp2_with fail
    refine bodyPost_ret (v := .agg #[.int .i64 1, .int .i64 n, .string ⟨#[]⟩, .slice none 0 0]) (by simp [results, Try.results41, go_sem, z0, z1, z2, z3, hlz2]) rfl ?_
    exact rd_leaf (k := 1) HB02.out HR2.out hgl (by decide) hwn
  · go_enter Try.func41, Try.ntmps41
    go_wp2_with fail
    obtain ⟨w1, hw1⟩ : ∃ x, w.alloc (.cells #[.int .i64 0, .int .i64 0, .string ⟨#[]⟩, .slice none 0 0] 24) = x := ⟨_, rfl⟩
    rw [hw1] at HZ HB0 ⊢
    clear hw1
    refine (HUN.out w1).mono ?_
    rintro e w2 ⟨rfl, hb2⟩
    have hr2 := (H.out.below HB0.out).below hb2
    have hz2 := HZ.out.below hb2 HZ.out.lt
    have hlt2 : gR < w2.heap.size := Blk.lt hr2
    have hlz2 : w.heap.size < w2.heap.size := hz2.lt
    obtain ⟨d0, d1, d2, d3, f2, f3⟩ := hr2.four
    obtain ⟨z0, z1, z2, z3, y0, y1, y2, y3⟩ := hz2.four
    have hb02 := fbelow HB0.out hb2
    have HB02 := Lib.hid hb02; have HR2 := Lib.hid hr2; have HZ2 := Lib.hid hz2
    clear hb2 hr2 hz2 hb02
    go_wp2_with fail
    refine bodyPost_ret (v := .agg #[.int .i64 3, .int .i64 n, .string ⟨#[]⟩, .slice none 0 0]) (by simp [results, Try.results41, go_sem, z0, z1, z2, z3, hlz2]) rfl ?_
    exact rd_leaf (k := 3) HB02.out HR2.out hgl (by decide) hwn
  · go_enter Try.func41, Try.ntmps41
    go_wp2_with fail
    obtain ⟨w1, hw1⟩ : ∃ x, w.alloc (.cells #[.int .i64 0, .int .i64 0, .string ⟨#[]⟩, .slice none 0 0] 24) = x := ⟨_, rfl⟩
    rw [hw1] at HZ HB0 ⊢
    clear hw1
    refine (HUN.out w1).mono ?_
    rintro e w2 ⟨rfl, hb2⟩
    have hr2 := (H.out.below HB0.out).below hb2
    have hz2 := HZ.out.below hb2 HZ.out.lt
    have hlt2 : gR < w2.heap.size := Blk.lt hr2
    have hlz2 : w.heap.size < w2.heap.size := hz2.lt
    obtain ⟨d0, d1, d2, d3, f2, f3⟩ := hr2.four
    obtain ⟨z0, z1, z2, z3, y0, y1, y2, y3⟩ := hz2.four
    have hb02 := fbelow HB0.out hb2
    have HB02 := Lib.hid hb02; have HR2 := Lib.hid hr2; have HZ2 := Lib.hid hz2
    clear hb2 hr2 hz2 hb02
    go_wp2_with fail
    refine bodyPost_ret (v := .agg #[.int .i64 4, .int .i64 n, .string ⟨#[]⟩, .slice none 0 0]) (by simp [results, Try.results41, go_sem, z0, z1, z2, z3, hlz2]) rfl ?_
    exact rd_leaf (k := 4) HB02.out HR2.out hgl (by decide) hwn
  · go_enter Try.func41, Try.ntmps41
    go_wp2_with fail
    obtain ⟨w1, hw1⟩ : ∃ x, w.alloc (.cells #[.int .i64 0, .int .i64 0, .string ⟨#[]⟩, .slice none 0 0] 24) = x := ⟨_, rfl⟩
    rw [hw1] at HZ HB0 ⊢
    clear hw1
    refine (HUN.out w1).mono ?_
    rintro e w2 ⟨rfl, hb2⟩
    have hr2 := (H.out.below HB0.out).below hb2
    have hz2 := HZ.out.below hb2 HZ.out.lt
    have hlt2 : gR < w2.heap.size := Blk.lt hr2
    have hlz2 : w.heap.size < w2.heap.size := hz2.lt
    obtain ⟨d0, d1, d2, d3, f2, f3⟩ := hr2.four
    obtain ⟨z0, z1, z2, z3, y0, y1, y2, y3⟩ := hz2.four
    have hb02 := fbelow HB0.out hb2
    have HB02 := Lib.hid hb02; have HR2 := Lib.hid hr2; have HZ2 := Lib.hid hz2
    clear hb2 hr2 hz2 hb02
    go_wp2_with fail
    refine bodyPost_ret (v := .agg #[.int .i64 6, .int .i64 n, .string ⟨#[]⟩, .slice none 0 0]) (by simp [results, Try.results41, go_sem, z0, z1, z2, z3, hlz2]) rfl ?_
    exact rd_leaf (k := 6) HB02.out HR2.out hgl (by decide) hwn
  · go_enter Try.func41, Try.ntmps41
    go_wp2_with fail
    obtain ⟨w1, hw1⟩ : ∃ x, w.alloc (.cells #[.int .i64 0, .int .i64 0, .string ⟨#[]⟩, .slice none 0 0] 24) = x := ⟨_, rfl⟩
    rw [hw1] at HZ HB0 ⊢
    clear hw1
    refine (HUN.out w1).mono ?_
    rintro e w2 ⟨rfl, hb2⟩
    have hr2 := (H.out.below HB0.out).below hb2
    have hz2 := HZ.out.below hb2 HZ.out.lt
    have hlt2 : gR < w2.heap.size := Blk.lt hr2
    have hlz2 : w.heap.size < w2.heap.size := hz2.lt
    obtain ⟨d0, d1, d2, d3, f2, f3⟩ := hr2.four
    obtain ⟨z0, z1, z2, z3, y0, y1, y2, y3⟩ := hz2.four
    have hb02 := fbelow HB0.out hb2
    have HB02 := Lib.hid hb02; have HR2 := Lib.hid hr2; have HZ2 := Lib.hid hz2
    clear hb2 hr2 hz2 hb02
    go_wp2_with fail
    refine bodyPost_ret (v := .agg #[.int .i64 8, .int .i64 n, .string ⟨#[]⟩, .slice none 0 0]) (by simp [results, Try.results41, go_sem, z0, z1, z2, z3, hlz2]) rfl ?_
    exact rd_leaf (k := 8) HB02.out HR2.out hgl (by decide) hwn
end Go.Proofs.Ytfcialleekfjmaa.Fl
