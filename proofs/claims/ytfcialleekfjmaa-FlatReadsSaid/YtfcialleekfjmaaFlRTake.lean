/- The document's reader: take, head, parts. -/
import Derived.Test.YtfcialleekfjmaaFlTerm4
import Derived.Test.YtfcialleekfjmaaRef7
import Derived.Test.YtfcialleekfjmaaRefWord
namespace Go.Proofs.Ytfcialleekfjmaa.Fl
open Go.RowKit K At Wd
set_option linter.unusedVariables false
set_option linter.unusedSimpArgs false

/-- The document's reader at gR. -/
def RRdr (w : World) (gR : Nat) (p : Value) (A : Option Addr) (n c : Nat) (q : Int) (b : Bool) : Prop := Blk w gR 94 #[p, .slice A n c, .int .i64 q, .bool b]
section
variable {w w' : World} {gR : Nat} {p : Value} {A : Option Addr} {n c : Nat} {q : Int} {b : Bool}
theorem RRdr.four (h : RRdr w gR p A n c q b) : w.cell? ⟨gR, 0, none⟩ = some p ∧ w.cell? ⟨gR, 1, none⟩ = some (.slice A n c) ∧ w.cell? ⟨gR, 2, none⟩ = some (.int .i64 q) ∧ w.cell? ⟨gR, 3, none⟩ = some (.bool b) ∧ w.frozen? ⟨gR, 2, none⟩ = false ∧ w.frozen? ⟨gR, 3, none⟩ = false :=
  ⟨by rw [Blk.cell h]; rfl, by rw [Blk.cell h]; rfl, by rw [Blk.cell h]; rfl, by rw [Blk.cell h]; rfl, Blk.frozen h 2, Blk.frozen h 3⟩
theorem RRdr.below (h : RRdr w gR p A n c q b) (hb : Below w.heap.size w w') : RRdr w' gR p A n c q b := Blk.below h hb (Blk.lt h)
theorem RRdr.at_ (h : RRdr w gR p A n c q b) (q' : Int) : RRdr (w.setCell ⟨gR, 2, none⟩ (.int .i64 q')) gR p A n c q' b := by
  unfold RRdr at h ⊢; simpa using Blk.set_ h 2 (.int .i64 q')
theorem RRdr.bad (h : RRdr w gR p A n c q b) (b' : Bool) : RRdr (w.setCell ⟨gR, 3, none⟩ (.bool b')) gR p A n c q b' := by
  unfold RRdr at h ⊢; simpa using Blk.set_ h 3 (.bool b')
end
theorem ret1_n {a b : Int} (h : a = b) : Ending.returned (.int .i64 a) = .returned (.int .i64 b) := by rw [h]
set_option maxRecDepth 100000 in
set_option maxHeartbeats 4000000 in
theorem rtake_no (gR : Nat) (p : Value) (A : Option Addr) (n c : Nat) (q m : Nat) (w : World) (h : RRdr w gR p A n c q false) (hn : n ≤ 65536) (hq : q ≤ n) (hm0 : m ≤ 65536) (hm : n < q + m) :
    Calls Try.prog 71 #[.pointer (some ⟨gR, 0, none⟩), .int .i64 (m : Int)] w fun e w' => e = .returned (.int .i64 0) ∧ RRdr w' gR p A n c q true ∧ Keep (fun b => b = gR) w w' := by
  obtain ⟨c0, c1, c2, c3, f2, f3⟩ := h.four
  have H := Lib.hid h
  have hd : decide ((n : Int) - (q : Int) < (m : Int)) = true := by simp; omega
  have hlt : (n : Int) - (q : Int) < (m : Int) := by omega
  clear h
  go_enter Try.func71, Try.ntmps71
  go_wp2_with fail
  go_ret
  exact ⟨rfl, H.out.bad true, (Keep.refl (fun b => b = gR) w).setCell (p := ⟨gR, 3, none⟩) (.inl rfl) _⟩
set_option maxRecDepth 100000 in
set_option maxHeartbeats 4000000 in
theorem rtake_ok (gR : Nat) (p : Value) (A : Option Addr) (n c : Nat) (q m : Nat) (w : World) (h : RRdr w gR p A n c q false) (hn : n ≤ 65536) (hm : q + m ≤ n) :
    Calls Try.prog 71 #[.pointer (some ⟨gR, 0, none⟩), .int .i64 (m : Int)] w fun e w' => e = .returned (.int .i64 (q : Int)) ∧ RRdr w' gR p A n c ((q + m : Nat) : Int) false ∧ Keep (fun b => b = gR) w w' := by
  obtain ⟨c0, c1, c2, c3, f2, f3⟩ := h.four
  have H := Lib.hid h
  have hd : decide ((n : Int) - (q : Int) < (m : Int)) = false := by simp; omega
  have hlt : ¬ ((n : Int) - (q : Int) < (m : Int)) := by omega
  clear h
  go_enter Try.func71, Try.ntmps71
  go_wp2_with fail
  go_ret
  exact ⟨rfl, H.out.at_ _, (Keep.refl (fun b => b = gR) w).setCell (p := ⟨gR, 2, none⟩) (.inl rfl) _⟩
set_option maxRecDepth 100000 in
set_option maxHeartbeats 4000000 in
theorem rtake_bad (gR : Nat) (p : Value) (A : Option Addr) (n c : Nat) (q m : Int) (w : World) (h : RRdr w gR p A n c q true) :
    Calls Try.prog 71 #[.pointer (some ⟨gR, 0, none⟩), .int .i64 m] w fun e w' => e = .returned (.int .i64 0) ∧ RRdr w' gR p A n c q true ∧ Keep (fun b => b = gR) w w' := by
  obtain ⟨c0, c1, c2, c3, f2, f3⟩ := h.four
  have H := Lib.hid h
  clear h
  go_enter Try.func71, Try.ntmps71
  go_wp2_with fail
  go_ret
  exact ⟨rfl, H.out.bad true, (Keep.refl (fun b => b = gR) w).setCell (p := ⟨gR, 3, none⟩) (.inl rfl) _⟩
set_option maxRecDepth 100000 in
set_option maxHeartbeats 4000000 in
theorem rhead_any (gR : Nat) (p : Value) (A : Option Addr) (l : List Int) (c : Nat) (q : Nat) (k : Int) (w : World) (h : RRdr w gR p A l.length c q false) (hl : Reads w gR 1 A l.length (u64s l)) (hU : ∀ x ∈ l, U64 x) (hn : l.length ≤ 65536) (hq : q ≤ l.length) :
    Calls Try.prog 70 #[.pointer (some ⟨gR, 0, none⟩), .int .i64 k] w fun e w' => Keep (fun b => b = gR) w w' ∧
      ((∃ x, l[q]? = some x ∧ unE x = 0 ∧ unK x = k ∧ e = .returned (.int .i64 (unN x)) ∧ RRdr w' gR p A l.length c ((q + 1 : Nat) : Int) false) ∨ ((∀ x, l[q]? = some x → ¬ (unE x = 0 ∧ unK x = k)) ∧ e = .returned (.int .i64 0) ∧ ∃ q' : Int, RRdr w' gR p A l.length c q' true)) := by
  by_cases hlt : q < l.length
  · obtain ⟨x, hx⟩ : ∃ x, l[q]? = some x := ⟨_, List.getElem?_eq_getElem hlt⟩
    have hUx := hU x (List.mem_of_getElem? hx)
    have HT := Lib.hid (rtake_ok gR p A l.length c q 1 w h hn (by omega))
    have HUN := Lib.hid (fun w => runpack_any x hUx.1 hUx.2 w)
    have hglt : gR < w.heap.size := Blk.lt h
    have HRK := Lib.hid (show ∀ wx, Keep (fun b => b = gR) w wx → Reads wx gR 1 A l.length (u64s l) from fun wx hk => hl.keepF (Nat.le_of_lt hglt) hk (fun i hi e => by omega))
    have HX := Lib.hid hx
    obtain ⟨N, hN⟩ : ∃ N, l.length = N := ⟨_, rfl⟩
    have HN := Lib.hid hN
    rw [hN] at HT hlt HRK
    clear h hl hU hx hUx hn hN hq
    have hi0 : (0 : Int) ≤ (q : Int) := by omega
    have hil : (q : Int) < (N : Int) := by omega
    by_cases hu : unE x = 0 ∧ unK x = k
    · have hE : (unE x != 0) = false := by rw [hu.1]; rfl
      have hK : (unK x != k) = false := by rw [hu.2]; simp
      have HU := Lib.hid hu
      obtain ⟨xk, hxk⟩ : ∃ xk, unK x = xk := ⟨_, rfl⟩
      obtain ⟨xe, hxe⟩ : ∃ xe, unE x = xe := ⟨_, rfl⟩
      rw [hxk] at HUN hK
      rw [hxe] at HUN hE
      clear hu hxk hxe
      go_enter Try.func70, Try.ntmps70
      go_wp2_with fail
      refine HT.out.mono ?_
      rintro e w1 ⟨rfl, hr1, hk1⟩
      obtain ⟨d0, d1, d2, d3, _, _⟩ := hr1.four
      obtain ⟨ad, u, rfl, hab, hu, hcell⟩ := (HRK.out w1 hk1).at_ (k := q) hlt
      obtain rfl : u = .int .u64 x := u64_at HX.out hu
      have HR1 := Lib.hid hr1; have HK1 := Lib.hid hk1
      clear hr1 hk1 hu
      go_wp2_with fail
      refine (HUN.out _).mono ?_
      rintro e w2 ⟨rfl, rfl⟩
      go_wp2_with fail
      go_ret
      exact ⟨HK1.out, .inl ⟨x, HX.out, HU.out.1, HU.out.2, rfl, by rw [HN.out]; exact HR1.out⟩⟩
    · have HU := Lib.hid hu
      by_cases he : unE x = 0
      · have hE : (unE x != 0) = false := by rw [he]; rfl
        have hK : (unK x != k) = true := by simp; intro e; exact hu ⟨he, e⟩
        obtain ⟨xk, hxk⟩ : ∃ xk, unK x = xk := ⟨_, rfl⟩
        obtain ⟨xe, hxe⟩ : ∃ xe, unE x = xe := ⟨_, rfl⟩
        rw [hxk] at HUN hK
        rw [hxe] at HUN hE
        clear hu hxk hxe he
        go_enter Try.func70, Try.ntmps70
        go_wp2_with fail
        refine HT.out.mono ?_
        rintro e w1 ⟨rfl, hr1, hk1⟩
        obtain ⟨d0, d1, d2, d3, f2, f3⟩ := hr1.four
        obtain ⟨ad, u, rfl, hab, hu, hcell⟩ := (HRK.out w1 hk1).at_ (k := q) hlt
        obtain rfl : u = .int .u64 x := u64_at HX.out hu
        have HR1 := Lib.hid hr1; have HK1 := Lib.hid hk1
        clear hr1 hk1 hu
        go_wp2_with fail
        refine (HUN.out _).mono ?_
        rintro e w2 ⟨rfl, rfl⟩
        go_wp2_with fail
        go_ret
        exact ⟨HK1.out.setCell (p := ⟨gR, 3, none⟩) (.inl rfl) _, .inr ⟨fun y hy => by rw [HX.out] at hy; injection hy with hy; subst hy; exact HU.out, rfl, _, by rw [HN.out]; exact HR1.out.bad true⟩⟩
      · have hE : (unE x != 0) = true := by simpa using he
        obtain ⟨xk, hxk⟩ : ∃ xk, unK x = xk := ⟨_, rfl⟩
        obtain ⟨xe, hxe⟩ : ∃ xe, unE x = xe := ⟨_, rfl⟩
        rw [hxk] at HUN
        rw [hxe] at HUN hE
        clear hu hxk hxe he
        go_enter Try.func70, Try.ntmps70
        go_wp2_with fail
        refine HT.out.mono ?_
        rintro e w1 ⟨rfl, hr1, hk1⟩
        obtain ⟨d0, d1, d2, d3, f2, f3⟩ := hr1.four
        obtain ⟨ad, u, rfl, hab, hu, hcell⟩ := (HRK.out w1 hk1).at_ (k := q) hlt
        obtain rfl : u = .int .u64 x := u64_at HX.out hu
        have HR1 := Lib.hid hr1; have HK1 := Lib.hid hk1
        clear hr1 hk1 hu
        go_wp2_with fail
        refine (HUN.out _).mono ?_
        rintro e w2 ⟨rfl, rfl⟩
        go_wp2_with fail
        go_ret
        exact ⟨HK1.out.setCell (p := ⟨gR, 3, none⟩) (.inl rfl) _, .inr ⟨fun y hy => by rw [HX.out] at hy; injection hy with hy; subst hy; exact HU.out, rfl, _, by rw [HN.out]; exact HR1.out.bad true⟩⟩
  · obtain rfl : q = l.length := by omega
    have HT := Lib.hid (rtake_no gR p A l.length c l.length 1 w h hn (Nat.le_refl _) (by omega) (by omega))
    clear h hl hU
    go_enter Try.func70, Try.ntmps70
    go_wp2_with fail
    refine HT.out.mono ?_
    rintro e w1 ⟨rfl, hr1, hk1⟩
    obtain ⟨d0, d1, d2, d3, f2, f3⟩ := hr1.four
    have HR1 := Lib.hid hr1; have HK1 := Lib.hid hk1
    clear hr1 hk1
    go_wp2_with fail
    go_ret
    exact ⟨HK1.out, .inr ⟨fun y hy => by simp at hy, rfl, _, HR1.out⟩⟩
/-- What the document's reader needs that stays. -/
def REnvR (w : World) (gR h : Nat) (G : Nat → Prop) (T : List ByteArray) (A : Option Addr) (l : List Int) : Prop := RTab w G h T ∧ ¬ G gR ∧ Reads w gR 1 A l.length (u64s l) ∧ gR < w.heap.size
theorem REnvR.keep {w w' : World} {gR h : Nat} {G : Nat → Prop} {T : List ByteArray} {A : Option Addr} {l : List Int} (e : REnvR w gR h G T A l) (hk : Keep (fun b => b = gR) w w') : REnvR w' gR h G T A l := by
  obtain ⟨h1, h2, h3, h4⟩ := e
  exact ⟨h1.keep hk (fun r hr e => h2 (e ▸ hr)), h2, h3.keepF (Nat.le_of_lt h4) hk (fun i hi e => by omega), Nat.lt_of_lt_of_le h4 hk.size⟩
/-- What a reading of the document's answers. -/
def RRdPost (w : World) (gR : Nat) (p : Value) (A : Option Addr) (l : List Int) (c : Nat) (r : Option (Tm × Nat)) (e : Ending) (w' : World) : Prop :=
  ∃ k n s A1 m c1, e = .returned (.agg #[.int .i64 k, .int .i64 n, .string s, .slice A1 m c1]) ∧ Keep (fun b => b = gR) w w' ∧
    ((∃ t q, r = some (t, q) ∧ TAt w' (Fr w w') t (.agg #[.int .i64 k, .int .i64 n, .string s, .slice A1 m c1]) ∧ RRdr w' gR p A l.length c (q : Int) false) ∨ (r = none ∧ ∃ q' : Int, RRdr w' gR p A l.length c q' true))
/-- What the parts of the document's are. -/
def RPtPost (w : World) (gR : Nat) (p : Value) (A : Option Addr) (l : List Int) (c : Nat) (r : Option (List Tm × Nat)) (e : Ending) (w' : World) : Prop :=
  ∃ A1 m c1, e = .returned (.slice A1 m c1) ∧ Keep (fun b => b = gR) w w' ∧
    ((∃ ts q, r = some (ts, q) ∧ TRow w' w.heap.size (fun b => w.heap.size ≤ b) (.slice A1 m c1) ts ∧ RRdr w' gR p A l.length c (q : Int) false) ∨ (r = none ∧ ∃ q' : Int, RRdr w' gR p A l.length c q' true))
/-- In the loop over parts. -/
def RPI (w wr : World) (gR : Nat) (p : Value) (A : Option Addr) (l : List Int) (c : Nat) (rd : Int → Nat → Option (Tm × Nat)) (ws : List Int) (q0 i : Nat) (o : Value) : Prop :=
  ∃ A1 m c1, o = .slice A1 m c1 ∧ Keep (fun b => b = gR) w wr ∧
    ((∃ ts qi, rdL rd (ws.take i) q0 = some (ts, qi) ∧ q0 ≤ qi ∧ qi ≤ l.length ∧ TRow wr w.heap.size (fun b => w.heap.size ≤ b) (.slice A1 m c1) ts ∧ RRdr wr gR p A l.length c (qi : Int) false) ∨ (rdL rd ws q0 = none ∧ ∃ q' : Int, RRdr wr gR p A l.length c q' true))
theorem rparts_bad (gR : Nat) (p : Value) (A : Option Addr) (n c : Nat) (q a m : Int) (w : World) (h : RRdr w gR p A n c q true) :
    Calls Try.prog 72 #[.pointer (some ⟨gR, 0, none⟩), .int .i64 a, .int .i64 m] w fun e w' => e = .returned (.slice none 0 0) ∧ w' = w := by
  obtain ⟨c0, c1, c2, c3, f2, f3⟩ := h.four
  clear h
  by_cases hm : 0 < m
  · have b1 : decide ((0 : Int) < m) = true := decide_eq_true hm
    go_enter Try.func72, Try.ntmps72
    go_wp2_with fail
    go_loopw [8, 7] (fun i o wr => i = .int .i64 0 ∧ o = .slice none 0 0 ∧ wr = w) (fun i _ _ => 0)
    case atStart => exact ⟨rfl, rfl, rfl⟩
    case round =>
      obtain ⟨rfl, rfl, rfl⟩ := hrel
      go_wp2_with fail
      go_ret
      exact ⟨rfl, rfl⟩
  · have b1 : decide ((0 : Int) < m) = false := decide_eq_false hm
    go_enter Try.func72, Try.ntmps72
    go_wp2_with fail
    go_loopw [8, 7] (fun i o wr => i = .int .i64 0 ∧ o = .slice none 0 0 ∧ wr = w) (fun i _ _ => 0)
    case atStart => exact ⟨rfl, rfl, rfl⟩
    case round =>
      obtain ⟨rfl, rfl, rfl⟩ := hrel
      go_wp2_with fail
      go_ret
      exact ⟨rfl, rfl⟩
set_option maxRecDepth 100000 in
set_option maxHeartbeats 8000000 in
theorem rparts_any (gR : Nat) (p : Value) (A : Option Addr) (l : List Int) (c h : Nat) (G : Nat → Prop) (Ts : List ByteArray) (hU : ∀ x ∈ l, U64 x) (hlc : l.length ≤ c) (hl6 : l.length ≤ 65536) (rd : Int → Nat → Option (Tm × Nat)) (fuel at0 n q0 : Nat) (ha : at0 + n ≤ l.length) (hq0 : q0 ≤ l.length) (hf : 0 < n → l.length < q0 + fuel)
    (hrd : ∀ x q y, U64 x → q ≤ l.length → rd x q = some y → q ≤ y.2 ∧ y.2 ≤ l.length)
    (IH : ∀ x : Int, U64 x → ∀ q : Nat, q ≤ l.length → l.length < q + fuel → ∀ w, REnvR w gR h G Ts A l → RRdr w gR p A l.length c (q : Int) false → Calls Try.prog 52 #[.pointer (some ⟨gR, 0, none⟩), .int .u64 x] w (RRdPost w gR p A l c (rd x q)))
    (w : World) (henv : REnvR w gR h G Ts A l) (hr : RRdr w gR p A l.length c (q0 : Int) false) :
    Calls Try.prog 72 #[.pointer (some ⟨gR, 0, none⟩), .int .i64 (at0 : Int), .int .i64 (n : Int)] w (RPtPost w gR p A l c (rdL rd ((l.drop at0).take n) q0)) := by
  obtain ⟨i0, hin, hy0, hy1, hy2⟩ := info_parts infoT
  obtain ⟨ws, hws⟩ : ∃ ws, (l.drop at0).take n = ws := ⟨_, rfl⟩
  have hwl : ws.length = n := by rw [← hws, List.length_take, List.length_drop]; omega
  have hUw : ∀ u ∈ ws, U64 u := fun u hu => hU u (List.mem_of_mem_drop (List.mem_of_mem_take (hws ▸ hu)))
  have hwi : ∀ i u, ws[i]? = some u → l[at0 + i]? = some u := fun i u hu => by
    rw [← hws, List.getElem?_take] at hu
    split at hu
    · rw [List.getElem?_drop] at hu; exact hu
    · cases hu
  rw [hws]
  have hglt : gR < w.heap.size := henv.2.2.2
  have HI0 := Lib.hid (show RPI w w gR p A l c rd ws q0 0 (.slice none 0 0) from ⟨none, 0, 0, rfl, Keep.refl _ _, .inl ⟨[], q0, by rw [List.take_zero]; rfl, Nat.le_refl _, hq0, TRow.none_ _ _ _, hr⟩⟩)
  have HENV := Lib.hid henv; have HIH := Lib.hid IH; have HRD := Lib.hid hrd; have HUW := Lib.hid hUw; have HWI := Lib.hid hwi
  clear henv hr hrd IH hUw hwi hws hU
  go_enter Try.func72, Try.ntmps72
  go_wp2_with fail
  go_loopw [8, 7] (fun x o wr => ∃ i : Nat, i ≤ n ∧ x = .int .i64 (i : Int) ∧ RPI w wr gR p A l c rd ws q0 i o) (fun x _ _ => n - (intOf x).toNat)
  case atStart => exact ⟨0, Nat.zero_le _, rfl, HI0.out⟩
  case round =>
    obtain ⟨i, hi, rfl, A1, m, c1, rfl, hk, (⟨ts, qi, hfl, hq, hql, hrow, hr⟩ | ⟨hno, q', hr⟩)⟩ := hrel
    · clear HI0
      obtain ⟨d0, d1, d2, d3, _, _⟩ := hr.four
      have hi0 : (0 : Int) ≤ (i : Int) := by omega
      have hll : ts.length = i := by have := rdL_len hfl; rw [List.length_take, Nat.min_eq_left (by omega)] at this; exact this
      obtain ⟨A1', c1', he, _, _, _⟩ := hrow.form
      injection he with he1 he2 he3
      subst he1 he2 he3
      by_cases hlt : i < n
      · obtain ⟨u, hu⟩ : ∃ u, ws[i]? = some u := ⟨_, List.getElem?_eq_getElem (by omega)⟩
        have hul := HWI.out i u hu
        have hUu := HUW.out u (List.mem_of_getElem? hu)
        obtain ⟨ad, uv, rfl, hab, huv, hcell⟩ := (HENV.out.keep hk).2.2.1.at_ (k := at0 + i) (by omega)
        obtain rfl : uv = .int .u64 u := u64_at hul huv
        have HC := Lib.hid (HIH.out u hUu qi hql (by have := hf (by omega); omega) wr (HENV.out.keep hk) hr)
        have HFL := Lib.hid hfl; have HU := Lib.hid hu; have HK := Lib.hid hk; have HUU := Lib.hid hUu
        obtain ⟨G1, vs, hV, hG, hRw⟩ := hrow
        have HV := Lib.hid hV; have HGG := Lib.hid hG; have HRw := Lib.hid hRw
        have b1 : ts.length + 1 ≤ maxLen := by unfold maxLen; omega
        have b2 : (ts.length + 1) * 56 ≤ 140737488355328 := by omega
        have hin1 : (i : Int) < (n : Int) := by omega
        have hai : (at0 : Int) + (i : Int) < (l.length : Int) := by omega
        have hlr : gR < wr.heap.size := Blk.lt hr
        clear hfl hk hu hul hUu huv hV hG hRw hr hll
        go_wp2_with fail
        refine HC.out.mono ?_
        rintro e w6 ⟨k6, m6, s6, A6, l6, c6, rfl, hk6, hres⟩
        have HK6 := Lib.hid hk6; have HRES := Lib.hid hres
        have hR7 := ownsRow_keep HRw.out hk6 (fun r hr (e : r = gR) => by have := (HRw.out.lt r hr).1; omega)
        have HR7 := Lib.hid hR7
        have b3 : w.heap.size ≤ (w6.alloc (.cells #[.int .i64 k6, .int .i64 m6, .string s6, .slice A6 l6 c6] 24)).heap.size := by have := HK.out.size; have := hk6.size; simp; omega
        have HKX := Lib.hid ((HK.out.trans hk6 (fun _ _ h => h)).alloc (.cells #[.int .i64 k6, .int .i64 m6, .string s6, .slice A6 l6 c6] 24))
        clear hk6 hres hR7 d0 d1 d2 d3 hcell
        go_wp2_with (first
          | (at_builtin; refine wpList_append_own_at _ rfl _ _ 22 rfl w.heap.size 24 i0 _ 4 56 Try.underlying22 hin hy0 hy1 hy2 rfl (by decide) (.slice A1 ts.length c1) ts.length _ rfl (HR7.out.alloc _) ⟨w6.heap.size, 0, none⟩ 1 1 [.int .i64 k6, .int .i64 m6, .string s6, .slice A6 l6 c6] rfl rfl (cells4_new w6 (.int .i64 k6) (.int .i64 m6) (.string s6) (.slice A6 l6 c6) 24) (one4 _ _ _ _ _ _) b1 b2 b3 ?_; intro v3 w3 hR3 hg3 _ hat3
             obtain ⟨A5, c5, rfl, _, _⟩ := ownsRow_form hR3
             have HR3 := Lib.hid hR3; have HG3 := Lib.hid hg3; have HAT3 := Lib.hid hat3
             clear hR3 hg3 hat3)
          | fail)
        have hk3 := HKX.out.grown HG3.out (fun r hr => .inr (HRw.out.lt r hr).1)
        have hrr : ∀ q b, RRdr w6 gR p (some ad) l.length c q b → RRdr w3 gR p (some ad) l.length c q b := fun q b h => (Blk.alloc h _).grown HG3.out (fun e => by have := (HRw.out.lt _ e.symm).1; omega)
        rcases HRES.out with ⟨t, qj, ho, ht, hr6⟩ | ⟨ho, q', hr6⟩
        · obtain ⟨hij, hj⟩ := HRD.out u qi _ HUU.out hql ho
          have hT := TRow.snoc (w := w6) (B := w.heap.size) (Q := fun b => w.heap.size ≤ b) (HV.out.keep fun p hp => HK6.out.cell (HGG.out _ hp).1 (fun (e : p.block = gR) => by have := (HGG.out _ hp).2.1; omega)) (fun b hb => ⟨Nat.lt_of_lt_of_le (HGG.out b hb).1 HK6.out.size, (HGG.out b hb).2⟩) ht (fun b hb => ⟨hb.2, by have := hb.1; have := HK.out.size; omega, fun e => by
            have := (HRw.out.lt b e).2
            have := hb.1
            omega⟩) HG3.out HR3.out HAT3.out
          exact ⟨⟨i + 1, by omega, by go_num, A5, _, c5, rfl, hk3, .inl ⟨ts ++ [t], qj, by rw [rdL_snoc rd q0 HU.out, HFL.out]; simp only [ho], by omega, hj, hT, hrr _ _ hr6⟩⟩, by simp [intOf]; omega⟩
        · exact ⟨⟨i + 1, by omega, by go_num, A5, _, c5, rfl, hk3, .inr ⟨rdL_stop rd HU.out HFL.out ho, q', hrr _ _ hr6⟩⟩, by simp [intOf]; omega⟩
      · obtain rfl : i = n := by omega
        have HRW := Lib.hid hrow; have HRR := Lib.hid hr; have HK := Lib.hid hk
        rw [List.take_of_length_le (by omega)] at hfl
        have HFL := Lib.hid hfl
        clear hfl hrow hr hk hll
        go_wp2_with fail
        go_ret
        exact ⟨_, _, _, rfl, HK.out, .inl ⟨ts, qi, HFL.out, HRW.out, HRR.out⟩⟩
    · obtain ⟨d0, d1, d2, d3, _, _⟩ := hr.four
      have HEND := Lib.hid (show RPtPost w gR p A l c (rdL rd ws q0) (.returned (.slice A1 m c1)) wr from ⟨A1, m, c1, rfl, hk, .inr ⟨hno, q', hr⟩⟩)
      clear hno hr hk HI0
      by_cases hlt : i < n
      · have b1 : decide ((i : Int) < (n : Int)) = true := decide_eq_true (by omega)
        go_wp2_with fail
        go_ret
        exact HEND.out
      · have b1 : decide ((i : Int) < (n : Int)) = false := decide_eq_false (by omega)
        go_wp2_with fail
        go_ret
        exact HEND.out
end Go.Proofs.Ytfcialleekfjmaa.Fl
