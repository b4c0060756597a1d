/- flat.reader's term, by a contract: faults, and atoms. (Printed by mk_fterm.py.) -/
import Derived.Test.YtfcialleekfjmaaFlTerm
namespace Go.Proofs.Ytfcialleekfjmaa.Fl
open Go.RowKit K At Wd
set_option linter.unusedVariables false
set_option linter.unusedSimpArgs false

theorem rd_worldb {w w2 : World} {gR : Nat} {p : Value} {A : Option Addr} {N c : Nat} {q : Int} {b : Bool} (hb : Below w.heap.size w w2) (hr : Rdr w2 gR p A N c q b) (hg : gR < w.heap.size) (b' : Bool) (x0 x1 x2 x3 : Value) (o : Obj) :
    Keep (fun b => b = gR) w ((put4 (w2.setCell ⟨gR, 3, none⟩ (.bool b')) w.heap.size x0 x1 x2 x3).alloc o) ∧ Rdr ((put4 (w2.setCell ⟨gR, 3, none⟩ (.bool b')) w.heap.size x0 x1 x2 x3).alloc o) gR p A N c q b' := by
  have hne : gR ≠ w.heap.size := by omega
  exact ⟨((((((Keep.new (F := fun b => b = gR) hb).setCell (p := ⟨gR, 3, none⟩) (.inl rfl) _).setCell (p := ⟨w.heap.size, 0, none⟩) (.inr (Nat.le_refl _)) _).setCell (p := ⟨w.heap.size, 1, none⟩) (.inr (Nat.le_refl _)) _).setCell (p := ⟨w.heap.size, 2, none⟩) (.inr (Nat.le_refl _)) _).setCell (p := ⟨w.heap.size, 3, none⟩) (.inr (Nat.le_refl _)) _).alloc o,
    ((((Blk.far (hr.bad b') hne _).far hne _).far hne _).far hne _).alloc o⟩
theorem rd_bad {w w2 : World} {gR : Nat} {p : Value} {A : Option Addr} {l : List Int} {c : Nat} {q : Int} {b : Bool} {k n : Int} {s : ByteArray} {o : Obj} (hb : Below w.heap.size w w2) (hr : Rdr w2 gR p A l.length c q b) (hg : gR < w.heap.size) :
    RdPost w gR p A l c none (.returned (.agg #[.int .i64 k, .int .i64 n, .string s, .slice none 0 0])) ((put4 (w2.setCell ⟨gR, 3, none⟩ (.bool true)) w.heap.size (.int .i64 k) (.int .i64 n) (.string s) (.slice none 0 0)).alloc o) := by
  obtain ⟨h1, h2⟩ := rd_worldb hb hr hg true (.int .i64 k) (.int .i64 n) (.string s) (.slice none 0 0) o
  exact ⟨h1, ⟨k, n, s, none, 0, 0, rfl⟩, q, h2⟩
set_option maxRecDepth 100000 in
set_option maxHeartbeats 8000000 in
theorem term_bad1 (gR : Nat) (p : Value) (A : Option Addr) (l : List Int) (c q : Nat) (x k n y : Int) (hx : U64 x) (hk : unK x = k) (hn : unN x = n) (hy : unE x = y) (he : y ≠ 0) (w : World) (h : Rdr w gR p A l.length c q false) :
    Calls Try.prog 41 #[.pointer (some ⟨gR, 0, none⟩), .int .u64 x] w (RdPost w gR p A l c none) := by
  have HUN := Lib.hid (show ∀ w : World, Calls Try.prog 59 #[.int .u64 x] w (fun e w' => e = .returned (.tuple #[.int .i64 k, .int .i64 n, .int .i64 y]) ∧ Below w.heap.size w w') from fun w => by
    have h := unpack_any x hx.1 hx.2 w
    rw [hk, hn, hy] at h
    exact h)
  have H := Lib.hid h
  have by0 : (y != 0) = true := by simpa using he
  have hgl : gR < w.heap.size := Blk.lt H.out
  have hz := Blk.new w 24 #[.int .i64 0, .int .i64 0, .string ⟨#[]⟩, .slice none 0 0]
  have hb0 := ballocs (Below.refl w.heap.size w) (.cells #[.int .i64 0, .int .i64 0, .string ⟨#[]⟩, .slice none 0 0] 24)
  have HZ := Lib.hid hz; have HB0 := Lib.hid hb0
  clear hz hb0 h hx hk hn he
  go_enter Try.func41, Try.ntmps41
  go_wp2_with fail
  obtain ⟨w1, hw1⟩ : ∃ x, w.alloc (.cells #[.int .i64 0, .int .i64 0, .string ⟨#[]⟩, .slice none 0 0] 24) = x := ⟨_, rfl⟩
  rw [hw1] at HZ HB0 ⊢
  clear hw1
  refine (HUN.out w1).mono ?_
  rintro e w2 ⟨rfl, hb2⟩
  have hr2 := (H.out.below HB0.out).below hb2
  have hz2 := HZ.out.below hb2 HZ.out.lt
  have hlt2 : gR < w2.heap.size := Blk.lt hr2
  have hlz2 : w.heap.size < w2.heap.size := hz2.lt
  obtain ⟨d0, d1, d2, d3, f2, f3⟩ := hr2.four
  obtain ⟨z0, z1, z2, z3, y0, y1, y2, y3⟩ := hz2.four
  have hb02 := fbelow HB0.out hb2
  have hne : gR ≠ w.heap.size := by omega
  have HB02 := Lib.hid hb02; have HR2 := Lib.hid hr2; have HZ2 := Lib.hid hz2
  clear hb2 hr2 hz2 hb02
  go_wp2_with fail
  refine bodyPost_ret (v := .agg #[.int .i64 k, .int .i64 n, .string ⟨#[]⟩, .slice none 0 0]) (by simp [results, Try.results41, go_sem, z0, z1, z2, z3, hlz2]) rfl ?_
  exact rd_bad HB02.out HR2.out hgl
set_option maxRecDepth 100000 in
set_option maxHeartbeats 8000000 in
theorem term_bad2 (gR : Nat) (p : Value) (A : Option Addr) (l : List Int) (c q : Nat) (x k n y : Int) (hx : U64 x) (hk : unK x = k) (hn : unN x = n) (hy : unE x = y) (he : y = 0) (hkk : k < 1 ∨ 9 < k) (w : World) (h : Rdr w gR p A l.length c q false) :
    Calls Try.prog 41 #[.pointer (some ⟨gR, 0, none⟩), .int .u64 x] w (RdPost w gR p A l c none) := by
  have HUN := Lib.hid (show ∀ w : World, Calls Try.prog 59 #[.int .u64 x] w (fun e w' => e = .returned (.tuple #[.int .i64 k, .int .i64 n, .int .i64 y]) ∧ Below w.heap.size w w') from fun w => by
    have h := unpack_any x hx.1 hx.2 w
    rw [hk, hn, hy] at h
    exact h)
  have H := Lib.hid h
  subst he
  have b1 : (k == 1) = false := by rw [beq_eq_false_iff_ne]; omega
  have b2 : (k == 2) = false := by rw [beq_eq_false_iff_ne]; omega
  have b3 : (k == 3) = false := by rw [beq_eq_false_iff_ne]; omega
  have b4 : (k == 4) = false := by rw [beq_eq_false_iff_ne]; omega
  have b5 : (k == 5) = false := by rw [beq_eq_false_iff_ne]; omega
  have b6 : (k == 6) = false := by rw [beq_eq_false_iff_ne]; omega
  have b7 : (k == 7) = false := by rw [beq_eq_false_iff_ne]; omega
  have b8 : (k == 8) = false := by rw [beq_eq_false_iff_ne]; omega
  have b9 : (k == 9) = false := by rw [beq_eq_false_iff_ne]; omega
  have hgl : gR < w.heap.size := Blk.lt H.out
  have hz := Blk.new w 24 #[.int .i64 0, .int .i64 0, .string ⟨#[]⟩, .slice none 0 0]
  have hb0 := ballocs (Below.refl w.heap.size w) (.cells #[.int .i64 0, .int .i64 0, .string ⟨#[]⟩, .slice none 0 0] 24)
  have HZ := Lib.hid hz; have HB0 := Lib.hid hb0
  clear hz hb0 h hx hk hn hkk
  go_enter Try.func41, Try.ntmps41
  go_wp2_with fail
  obtain ⟨w1, hw1⟩ : ∃ x, w.alloc (.cells #[.int .i64 0, .int .i64 0, .string ⟨#[]⟩, .slice none 0 0] 24) = x := ⟨_, rfl⟩
  rw [hw1] at HZ HB0 ⊢
  clear hw1
  refine (HUN.out w1).mono ?_
  rintro e w2 ⟨rfl, hb2⟩
  have hr2 := (H.out.below HB0.out).below hb2
  have hz2 := HZ.out.below hb2 HZ.out.lt
  have hlt2 : gR < w2.heap.size := Blk.lt hr2
  have hlz2 : w.heap.size < w2.heap.size := hz2.lt
  obtain ⟨d0, d1, d2, d3, f2, f3⟩ := hr2.four
  obtain ⟨z0, z1, z2, z3, y0, y1, y2, y3⟩ := hz2.four
  have hb02 := fbelow HB0.out hb2
  have hne : gR ≠ w.heap.size := by omega
  have HB02 := Lib.hid hb02; have HR2 := Lib.hid hr2; have HZ2 := Lib.hid hz2
  clear hb2 hr2 hz2 hb02
  go_wp2_with fail
  refine bodyPost_ret (v := .agg #[.int .i64 k, .int .i64 n, .string ⟨#[]⟩, .slice none 0 0]) (by simp [results, Try.results41, go_sem, z0, z1, z2, z3, hlz2]) rfl ?_
  exact rd_bad HB02.out HR2.out hgl
set_option maxRecDepth 100000 in
set_option maxHeartbeats 8000000 in
theorem term_bad3 (gR : Nat) (p : Value) (A : Option Addr) (l : List Int) (c q : Nat) (x k n y : Int) (hx : U64 x) (hk : unK x = k) (hn : unN x = n) (hy : unE x = y) (he : y = 0) (hkk : k = 5 ∨ k = 7 ∨ k = 9) (hnq : n ≠ (q : Int)) (w : World) (h : Rdr w gR p A l.length c q false) :
    Calls Try.prog 41 #[.pointer (some ⟨gR, 0, none⟩), .int .u64 x] w (RdPost w gR p A l c none) := by
  have HUN := Lib.hid (show ∀ w : World, Calls Try.prog 59 #[.int .u64 x] w (fun e w' => e = .returned (.tuple #[.int .i64 k, .int .i64 n, .int .i64 y]) ∧ Below w.heap.size w w') from fun w => by
    have h := unpack_any x hx.1 hx.2 w
    rw [hk, hn, hy] at h
    exact h)
  have H := Lib.hid h
  subst he
  have bn : (n != (q : Int)) = true := by simpa using hnq
  have hgl : gR < w.heap.size := Blk.lt H.out
  have hz := Blk.new w 24 #[.int .i64 0, .int .i64 0, .string ⟨#[]⟩, .slice none 0 0]
  have hb0 := ballocs (Below.refl w.heap.size w) (.cells #[.int .i64 0, .int .i64 0, .string ⟨#[]⟩, .slice none 0 0] 24)
  have HZ := Lib.hid hz; have HB0 := Lib.hid hb0
  clear hz hb0 h hx hk hn 
  rcases hkk with rfl | rfl | rfl
  · go_enter Try.func41, Try.ntmps41
    go_wp2_with fail
    obtain ⟨w1, hw1⟩ : ∃ x, w.alloc (.cells #[.int .i64 0, .int .i64 0, .string ⟨#[]⟩, .slice none 0 0] 24) = x := ⟨_, rfl⟩
    rw [hw1] at HZ HB0 ⊢
    clear hw1
    refine (HUN.out w1).mono ?_
    rintro e w2 ⟨rfl, hb2⟩
    have hr2 := (H.out.below HB0.out).below hb2
    have hz2 := HZ.out.below hb2 HZ.out.lt
    have hlt2 : gR < w2.heap.size := Blk.lt hr2
    have hlz2 : w.heap.size < w2.heap.size := hz2.lt
    obtain ⟨d0, d1, d2, d3, f2, f3⟩ := hr2.four
    obtain ⟨z0, z1, z2, z3, y0, y1, y2, y3⟩ := hz2.four
    have hb02 := fbelow HB0.out hb2
    have hne : gR ≠ w.heap.size := by omega
    have HB02 := Lib.hid hb02; have HR2 := Lib.hid hr2; have HZ2 := Lib.hid hz2
    clear hb2 hr2 hz2 hb02
    go_wp2_with fail
    refine bodyPost_ret (v := .agg #[.int .i64 5, .int .i64 n, .string ⟨#[]⟩, .slice none 0 0]) (by simp [results, Try.results41, go_sem, z0, z1, z2, z3, hlz2]) rfl ?_
    exact rd_bad HB02.out HR2.out hgl
  · go_enter Try.func41, Try.ntmps41
    go_wp2_with fail
    obtain ⟨w1, hw1⟩ : ∃ x, w.alloc (.cells #[.int .i64 0, .int .i64 0, .string ⟨#[]⟩, .slice none 0 0] 24) = x := ⟨_, rfl⟩
    rw [hw1] at HZ HB0 ⊢
    clear hw1
    refine (HUN.out w1).mono ?_
    rintro e w2 ⟨rfl, hb2⟩
    have hr2 := (H.out.below HB0.out).below hb2
    have hz2 := HZ.out.below hb2 HZ.out.lt
    have hlt2 : gR < w2.heap.size := Blk.lt hr2
    have hlz2 : w.heap.size < w2.heap.size := hz2.lt
    obtain ⟨d0, d1, d2, d3, f2, f3⟩ := hr2.four
    obtain ⟨z0, z1, z2, z3, y0, y1, y2, y3⟩ := hz2.four
    have hb02 := fbelow HB0.out hb2
    have hne : gR ≠ w.heap.size := by omega
    have HB02 := Lib.hid hb02; have HR2 := Lib.hid hr2; have HZ2 := Lib.hid hz2
    clear hb2 hr2 hz2 hb02
    go_wp2_with fail
    refine bodyPost_ret (v := .agg #[.int .i64 7, .int .i64 n, .string ⟨#[]⟩, .slice none 0 0]) (by simp [results, Try.results41, go_sem, z0, z1, z2, z3, hlz2]) rfl ?_
    exact rd_bad HB02.out HR2.out hgl
  · go_enter Try.func41, Try.ntmps41
    go_wp2_with fail
    obtain ⟨w1, hw1⟩ : ∃ x, w.alloc (.cells #[.int .i64 0, .int .i64 0, .string ⟨#[]⟩, .slice none 0 0] 24) = x := ⟨_, rfl⟩
    rw [hw1] at HZ HB0 ⊢
    clear hw1
    refine (HUN.out w1).mono ?_
    rintro e w2 ⟨rfl, hb2⟩
    have hr2 := (H.out.below HB0.out).below hb2
    have hz2 := HZ.out.below hb2 HZ.out.lt
    have hlt2 : gR < w2.heap.size := Blk.lt hr2
    have hlz2 : w.heap.size < w2.heap.size := hz2.lt
    obtain ⟨d0, d1, d2, d3, f2, f3⟩ := hr2.four
    obtain ⟨z0, z1, z2, z3, y0, y1, y2, y3⟩ := hz2.four
    have hb02 := fbelow HB0.out hb2
    have hne : gR ≠ w.heap.size := by omega
    have HB02 := Lib.hid hb02; have HR2 := Lib.hid hr2; have HZ2 := Lib.hid hz2
    clear hb2 hr2 hz2 hb02
    go_wp2_with fail
    refine bodyPost_ret (v := .agg #[.int .i64 9, .int .i64 n, .string ⟨#[]⟩, .slice none 0 0]) (by simp [results, Try.results41, go_sem, z0, z1, z2, z3, hlz2]) rfl ?_
    exact rd_bad HB02.out HR2.out hgl
theorem rd_atom {w w2 : World} {gR : Nat} {p : Value} {A : Option Addr} {l : List Int} {c q : Nat} {s : ByteArray} {o : Obj} (hs : s.size ≤ 64) (hb : Below w.heap.size w w2) (hr : Rdr w2 gR p A l.length c q false) (hg : gR < w.heap.size) :
    RdPost w gR p A l c (some (.mk 2 0 s [], q)) (.returned (.agg #[.int .i64 2, .int .i64 0, .string s, .slice none 0 0])) ((put4 (w2.setCell ⟨gR, 3, none⟩ (.bool false)) w.heap.size (.int .i64 2) (.int .i64 0) (.string s) (.slice none 0 0)).alloc o) := by
  obtain ⟨h1, h2⟩ := rd_worldb hb hr hg false (.int .i64 2) (.int .i64 0) (.string s) (.slice none 0 0) o
  exact ⟨h1, _, rfl, TAt.of (t := .mk 2 0 s []) (A := none) (c := 0) ⟨(by decide : (Lit.int .i64 2).wf = true), (by decide : (Lit.int .i64 0).wf = true), by show s.size ≤ _; unfold maxLen; omega, Nat.le_refl _, Nat.zero_le _, fun _ => rfl⟩ (TsAt.nil _ _ _), h2⟩
set_option maxRecDepth 100000 in
set_option maxHeartbeats 8000000 in
theorem term_atom (gR : Nat) (p : Value) (A : Option Addr) (l : List Int) (c q : Nat) (x k n y : Int) (hx : U64 x) (hk : unK x = k) (hn : unN x = n) (hy : unE x = y) (m : Nat) (hm : n = (m : Int)) (s : ByteArray) (g : Nat) (F : Nat → Prop) (T : List ByteArray) (hp : p = .pointer (some ⟨g, 0, none⟩)) (he : y = 0) (hkk : k = 2) (hT : T[m]? = some s) (h64 : s.size ≤ 64) (w : World) (henv : REnv w gR g F T A l) (h : Rdr w gR p A l.length c q false) :
    Calls Try.prog 41 #[.pointer (some ⟨gR, 0, none⟩), .int .u64 x] w (RdPost w gR p A l c (some (.mk 2 0 s [], q))) := by
  have HUN := Lib.hid (show ∀ w : World, Calls Try.prog 59 #[.int .u64 x] w (fun e w' => e = .returned (.tuple #[.int .i64 k, .int .i64 n, .int .i64 y]) ∧ Below w.heap.size w w') from fun w => by
    have h := unpack_any x hx.1 hx.2 w
    rw [hk, hn, hy] at h
    exact h)
  have H := Lib.hid h
  subst he; subst hkk; subst hm; subst hp
  have hgl : gR < w.heap.size := Blk.lt H.out
  have hz := Blk.new w 24 #[.int .i64 0, .int .i64 0, .string ⟨#[]⟩, .slice none 0 0]
  have hb0 := ballocs (Below.refl w.heap.size w) (.cells #[.int .i64 0, .int .i64 0, .string ⟨#[]⟩, .slice none 0 0] 24)
  have HZ := Lib.hid hz; have HB0 := Lib.hid hb0
  clear hz hb0 h hx hk hn 
  go_enter Try.func41, Try.ntmps41
  go_wp2_with fail
  obtain ⟨w1, hw1⟩ : ∃ x, w.alloc (.cells #[.int .i64 0, .int .i64 0, .string ⟨#[]⟩, .slice none 0 0] 24) = x := ⟨_, rfl⟩
  rw [hw1] at HZ HB0 ⊢
  clear hw1
  refine (HUN.out w1).mono ?_
  rintro e w2 ⟨rfl, hb2⟩
  have hr2 := (H.out.below HB0.out).below hb2
  have hz2 := HZ.out.below hb2 HZ.out.lt
  have hlt2 : gR < w2.heap.size := Blk.lt hr2
  have hlz2 : w.heap.size < w2.heap.size := hz2.lt
  obtain ⟨d0, d1, d2, d3, f2, f3⟩ := hr2.four
  obtain ⟨z0, z1, z2, z3, y0, y1, y2, y3⟩ := hz2.four
  have htb : ∀ o, Tab (w2.alloc o) F g T := fun o => (henv.keep (Keep.new (F := fun b => b = gR) (ballocs (fbelow HB0.out hb2) o))).1
  have HTB := Lib.hid htb; clear htb
  have hb02 := fbelow HB0.out hb2
  have hne : gR ≠ w.heap.size := by omega
  have HB02 := Lib.hid hb02; have HR2 := Lib.hid hr2; have HZ2 := Lib.hid hz2
  clear hb2 hr2 hz2 hb02
  go_wp2_with (first
    | (go_at_call 55; refine (name_yes g T m s _ F (HTB.out _) hT).mono ?_; rintro e w3 ⟨rfl, rfl⟩))
  refine bodyPost_ret (v := .agg #[.int .i64 2, .int .i64 0, .string s, .slice none 0 0]) (by simp [results, Try.results41, go_sem, z0, z1, z2, z3, hlz2]) rfl ?_
  exact rd_atom h64 HB02.out HR2.out hgl
set_option maxRecDepth 100000 in
set_option maxHeartbeats 8000000 in
theorem term_noatom (gR : Nat) (p : Value) (A : Option Addr) (l : List Int) (c q : Nat) (x k n y : Int) (hx : U64 x) (hk : unK x = k) (hn : unN x = n) (hy : unE x = y) (m : Nat) (hm : n = (m : Int)) (s : ByteArray) (g : Nat) (F : Nat → Prop) (T : List ByteArray) (hp : p = .pointer (some ⟨g, 0, none⟩)) (he : y = 0) (hkk : k = 2) (hT : T.length ≤ m) (w : World) (henv : REnv w gR g F T A l) (h : Rdr w gR p A l.length c q false) :
    Calls Try.prog 41 #[.pointer (some ⟨gR, 0, none⟩), .int .u64 x] w (RdPost w gR p A l c none) := by
  have HUN := Lib.hid (show ∀ w : World, Calls Try.prog 59 #[.int .u64 x] w (fun e w' => e = .returned (.tuple #[.int .i64 k, .int .i64 n, .int .i64 y]) ∧ Below w.heap.size w w') from fun w => by
    have h := unpack_any x hx.1 hx.2 w
    rw [hk, hn, hy] at h
    exact h)
  have H := Lib.hid h
  subst he; subst hkk; subst hm; subst hp
  have hgl : gR < w.heap.size := Blk.lt H.out
  have hz := Blk.new w 24 #[.int .i64 0, .int .i64 0, .string ⟨#[]⟩, .slice none 0 0]
  have hb0 := ballocs (Below.refl w.heap.size w) (.cells #[.int .i64 0, .int .i64 0, .string ⟨#[]⟩, .slice none 0 0] 24)
  have HZ := Lib.hid hz; have HB0 := Lib.hid hb0
  clear hz hb0 h hx hk hn 
  go_enter Try.func41, Try.ntmps41
  go_wp2_with fail
  obtain ⟨w1, hw1⟩ : ∃ x, w.alloc (.cells #[.int .i64 0, .int .i64 0, .string ⟨#[]⟩, .slice none 0 0] 24) = x := ⟨_, rfl⟩
  rw [hw1] at HZ HB0 ⊢
  clear hw1
  refine (HUN.out w1).mono ?_
  rintro e w2 ⟨rfl, hb2⟩
  have hr2 := (H.out.below HB0.out).below hb2
  have hz2 := HZ.out.below hb2 HZ.out.lt
  have hlt2 : gR < w2.heap.size := Blk.lt hr2
  have hlz2 : w.heap.size < w2.heap.size := hz2.lt
  obtain ⟨d0, d1, d2, d3, f2, f3⟩ := hr2.four
  obtain ⟨z0, z1, z2, z3, y0, y1, y2, y3⟩ := hz2.four
  have htb : ∀ o, Tab (w2.alloc o) F g T := fun o => (henv.keep (Keep.new (F := fun b => b = gR) (ballocs (fbelow HB0.out hb2) o))).1
  have HTB := Lib.hid htb; clear htb
  have hb02 := fbelow HB0.out hb2
  have hne : gR ≠ w.heap.size := by omega
  have HB02 := Lib.hid hb02; have HR2 := Lib.hid hr2; have HZ2 := Lib.hid hz2
  clear hb2 hr2 hz2 hb02
  go_wp2_with (first
    | (go_at_call 55; refine (name_no g T m _ F (HTB.out _) (.inr (by omega))).mono ?_; rintro e w3 ⟨rfl, rfl⟩))
  refine bodyPost_ret (v := .agg #[.int .i64 2, .int .i64 0, .string ByteArray.empty, .slice none 0 0]) (by simp [results, Try.results41, go_sem, z0, z1, z2, z3, hlz2]) rfl ?_
  exact rd_bad HB02.out HR2.out hgl
end Go.Proofs.Ytfcialleekfjmaa.Fl
