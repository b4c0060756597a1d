/- term.Copy, by a contract: the same term, in new memory; its inner terms in rows that may be written. -/
import Derived.Test.YtlaplakaifmpeaaOverTm
import Derived.Test.YtlaplakaifmpeaaFill
import Derived.Laws.EntriesVeiled
namespace Go.Proofs.Ytlaplakaifmpeaa.K
open Go.RowKit
set_option linter.unusedVariables false
set_option linter.unusedSimpArgs false

/-- The first k places of a row hold such terms. -/
def WSlots (w : World) (G : Nat → Prop) (L g k : Nat) : Prop := ∀ j, j < k → ∃ x0 x1 x2 x3 : Value, (w.cell? ⟨g, j * 4, none⟩ = some x0 ∧ w.cell? ⟨g, j * 4 + 1, none⟩ = some x1 ∧ w.cell? ⟨g, j * 4 + 2, none⟩ = some x2 ∧ w.cell? ⟨g, j * 4 + 3, none⟩ = some x3) ∧
  (w.frozen? ⟨g, j * 4, none⟩ = false ∧ w.frozen? ⟨g, j * 4 + 1, none⟩ = false ∧ w.frozen? ⟨g, j * 4 + 2, none⟩ = false ∧ w.frozen? ⟨g, j * 4 + 3, none⟩ = false) ∧ Wk w G L (.agg #[x0, x1, x2, x3])
section
variable {w w' : World} {F G G' : Nat → Prop} {L g k : Nat}
theorem WSlots.mono (h : WSlots w G L g k) (hG : ∀ b, G b → G' b) : WSlots w G' L g k := fun j hj => by
  obtain ⟨x0, x1, x2, x3, hc, hf, hw⟩ := h j hj
  exact ⟨x0, x1, x2, x3, hc, hf, hw.mono hG⟩
theorem WSlots.keep (h : WSlots w G L g k) (hk : Keep F w w') (hg : ¬ F g) (hG : ∀ b, G b → ¬ F b) : WSlots w' G L g k := fun j hj => by
  obtain ⟨x0, x1, x2, x3, ⟨c0, c1, c2, c3⟩, ⟨f0, f1, f2, f3⟩, hw⟩ := h j hj
  have hlt : g < w.heap.size := World.block_lt_of_cell? _ _ c0
  exact ⟨x0, x1, x2, x3, ⟨(hk.cell (p := ⟨g, j * 4, none⟩) hlt hg).trans c0, (hk.cell (p := ⟨g, j * 4 + 1, none⟩) hlt hg).trans c1, (hk.cell (p := ⟨g, j * 4 + 2, none⟩) hlt hg).trans c2, (hk.cell (p := ⟨g, j * 4 + 3, none⟩) hlt hg).trans c3⟩,
    ⟨(hk.frozen (p := ⟨g, j * 4, none⟩) hlt hg).trans f0, (hk.frozen (p := ⟨g, j * 4 + 1, none⟩) hlt hg).trans f1, (hk.frozen (p := ⟨g, j * 4 + 2, none⟩) hlt hg).trans f2, (hk.frozen (p := ⟨g, j * 4 + 3, none⟩) hlt hg).trans f3⟩, hw.keep hk hG⟩
theorem put4at_keeps (w : World) (g j : Nat) (y0 y1 y2 y3 : Value) : Keep (fun b => b = g) w (put4at w g j y0 y1 y2 y3) :=
  ((((Keep.refl (fun b => b = g) w).setCell (p := ⟨g, j, none⟩) (.inl rfl) _).setCell (p := ⟨g, j + 1, none⟩) (.inl rfl) _).setCell (p := ⟨g, j + 2, none⟩) (.inl rfl) _).setCell (p := ⟨g, j + 3, none⟩) (.inl rfl) _
theorem WSlots.put {y0 y1 y2 y3 : Value} (h : WSlots w G L g k) (h0 : ∃ x, w.cell? ⟨g, k * 4, none⟩ = some x) (h1 : ∃ x, w.cell? ⟨g, k * 4 + 1, none⟩ = some x) (h2 : ∃ x, w.cell? ⟨g, k * 4 + 2, none⟩ = some x) (h3 : ∃ x, w.cell? ⟨g, k * 4 + 3, none⟩ = some x)
    (f0 : w.frozen? ⟨g, k * 4, none⟩ = false) (f1 : w.frozen? ⟨g, k * 4 + 1, none⟩ = false) (f2 : w.frozen? ⟨g, k * 4 + 2, none⟩ = false) (f3 : w.frozen? ⟨g, k * 4 + 3, none⟩ = false) (hx : Wk w G L (.agg #[y0, y1, y2, y3])) (hG : ∀ b, G b → b ≠ g) : WSlots (put4at w g (k * 4) y0 y1 y2 y3) G L g (k + 1) := fun j hj => by
  have hk := put4at_keeps w g (k * 4) y0 y1 y2 y3
  by_cases e : j = k
  · subst e
    exact ⟨y0, y1, y2, y3, cell_put4at w g (j * 4) _ _ _ _ h0 h1 h2 h3, by simp only [frozen_put4at]; exact ⟨f0, f1, f2, f3⟩, hx.keep hk hG⟩
  · obtain ⟨x0, x1, x2, x3, ⟨c0, c1, c2, c3⟩, ⟨f0, f1, f2, f3⟩, hw⟩ := h j (by omega)
    have hd : ∀ r, r < 4 → g ≠ g ∨ j * 4 + r < k * 4 ∨ k * 4 + 4 ≤ j * 4 + r := fun r hr => by omega
    exact ⟨x0, x1, x2, x3, ⟨(cell_put4at_far _ _ _ _ _ _ _ (hd 0 (by omega))).trans c0, (cell_put4at_far _ _ _ _ _ _ _ (hd 1 (by omega))).trans c1, (cell_put4at_far _ _ _ _ _ _ _ (hd 2 (by omega))).trans c2, (cell_put4at_far _ _ _ _ _ _ _ (hd 3 (by omega))).trans c3⟩, by simp only [frozen_put4at]; exact ⟨f0, f1, f2, f3⟩, hw.keep hk hG⟩
theorem WSlots.wk {n c : Nat} (h : WSlots w G L g n) (hn : n ≤ 1048576) (hG : ∀ b, G b → G' b) (hg : G' g) (k m : Int) (s : ByteArray) : Wk w G' (L + 1) (.agg #[.int .i64 k, .int .i64 m, .string s, .slice (some ⟨g, 0, none⟩) n c]) :=
  ⟨k, m, s, _, n, c, rfl, hn, fun i hi => by
    obtain ⟨x0, x1, x2, x3, hc, hf, hw⟩ := h i hi
    exact ⟨g, x0, x1, x2, x3, rfl, hg, hc, hf, hw.mono hG⟩⟩
end
/-- The variable that holds the closure. -/
def CpVar (w : World) (a : Nat) : Prop := w.cell? ⟨a, 0, none⟩ = some (.func (.func 67) #[] #[.pointer (some ⟨a, 0, none⟩)]) ∧ a < w.heap.size
theorem below_later {w w1 w2 : World} (h : Below w.heap.size w w1) (h' : Below w1.heap.size w1 w2) : Below w.heap.size w w2 := h.trans (h'.mono h.size)
theorem CpVar.later {w w' : World} {a : Nat} (h : CpVar w a) (hb : Below w.heap.size w w') : CpVar w' a := ⟨(hb.cell h.2).trans h.1, Nat.lt_of_lt_of_le h.2 hb.size⟩
def CpC (t : Tm) : Prop := nodes t ≤ 1048576 → ∀ (v : Value) (w : World) (a : Nat), TA w t v → CpVar w a → Calls Try.prog 67 #[v, .pointer (some ⟨a, 0, none⟩)] w (CopiedW w t)
/-- What a round keeps. -/
def CpIn (w w3 : World) (L g n bx rs : Nat) (l : List Tm) (bv : Array Value) (i : Nat) (wr : World) : Prop :=
  FRow wr w.heap.size (Fr w3 wr) g n (l.take i) ∧ WSlots wr (Fr w3 wr) L g i ∧ Blk wr bx 24 bv ∧ Blk wr rs 24 #[.int .i64 0, .int .i64 0, .string ⟨#[]⟩, .slice none 0 0] ∧ Below w.heap.size w wr ∧ w3.heap.size ≤ wr.heap.size
theorem put4at_size (w : World) (g j : Nat) (y0 y1 y2 y3 : Value) : (put4at w g j y0 y1 y2 y3).heap.size = w.heap.size := by simp [put4at, World.setCell]
theorem CpIn.step {w w3 wr w5 w6 : World} {L g n bx rs i : Nat} {l : List Tm} {bv : Array Value} {u : Tm} {y0 y1 y2 y3 : Value} (h : CpIn w w3 L g n bx rs l bv i wr) (hu : l[i]? = some u) (hn : l.length = n) (hb : Below wr.heap.size wr w6) (hs : wr.heap.size ≤ w5.heap.size) (hx : TAt w6 (Fr w5 w6) u (.agg #[y0, y1, y2, y3]))
    (hw : Wk w6 (Fr w5 w6) L (.agg #[y0, y1, y2, y3])) (hg : g < w3.heap.size) (h1 : bx ≠ g) (h2 : rs ≠ g) :
    ((∃ x, w6.cell? ⟨g, i * 4, none⟩ = some x) ∧ (∃ x, w6.cell? ⟨g, i * 4 + 1, none⟩ = some x) ∧ (∃ x, w6.cell? ⟨g, i * 4 + 2, none⟩ = some x) ∧ (∃ x, w6.cell? ⟨g, i * 4 + 3, none⟩ = some x) ∧
      w6.frozen? ⟨g, i * 4, none⟩ = false ∧ w6.frozen? ⟨g, i * 4 + 1, none⟩ = false ∧ w6.frozen? ⟨g, i * 4 + 2, none⟩ = false ∧ w6.frozen? ⟨g, i * 4 + 3, none⟩ = false) ∧ CpIn w w3 L g n bx rs l bv (i + 1) (put4at w6 g (i * 4) y0 y1 y2 y3) := by
  obtain ⟨hF, hS, hB, hR, hb0, hz⟩ := h
  have hi := (List.getElem?_eq_some_iff.1 hu).1
  have hz6 := hb.size
  have hgw := hF.lt.1
  have hF6 : FRow w6 w.heap.size (Fr w3 w6) g n (l.take i) := (hF.later hb).more (fun b hb' => ⟨hb'.1, Nat.lt_of_lt_of_le hb'.2 hz6⟩) (fun b hb' => ⟨hb'.2, fun e => by have := hb'.1; omega⟩)
  have hS6 : WSlots w6 (Fr w3 w6) L g i := (hS.keep (F := fun _ => False) (Keep.new hb) (fun h => h) (fun _ _ h => h)).mono (fun b hb' => ⟨hb'.1, Nat.lt_of_lt_of_le hb'.2 hz6⟩)
  have hsub : ∀ b, Fr w5 w6 b → Fr w3 w6 b := fun b hb' => ⟨by have := hb'.1; omega, hb'.2⟩
  have hsp := hF6.spot (i := i) (by omega)
  have hlt : (l.take i).length = i := by rw [List.length_take]; omega
  have hp := hF6.put (by rw [hlt]; omega) (hx.mono hsub)
  rw [hlt, ← take_snoc_of hu] at hp
  have he : ∀ b, Fr w3 w6 b → Fr w3 (put4at w6 g (i * 4) y0 y1 y2 y3) b := fun b hb' => ⟨hb'.1, by rw [put4at_size]; exact hb'.2⟩
  refine ⟨hsp, hp.more he (fun b hb' => ⟨hb'.2, fun e => by have := hb'.1; omega⟩), ?_, ?_, ?_, ?_, by rw [put4at_size]; omega⟩
  · exact (hS6.put hsp.1 hsp.2.1 hsp.2.2.1 hsp.2.2.2.1 hsp.2.2.2.2.1 hsp.2.2.2.2.2.1 hsp.2.2.2.2.2.2.1 hsp.2.2.2.2.2.2.2 (hw.mono hsub) (fun b hb' e => by have := hb'.1; omega)).mono he
  · have h := hB.below hb hB.lt
    exact (((h.far h1 _).far h1 _).far h1 _).far h1 _
  · have h := hR.below hb hR.lt
    exact (((h.far h2 _).far h2 _).far h2 _).far h2 _
  · exact (put4at_keeps w6 g (i * 4) y0 y1 y2 y3).below (hb0.trans (hb.mono hb0.size)) (Nat.le_trans hb0.size hz6) (fun b hb' e => by subst e; omega)
/-- All places filled: the term's value. -/
theorem CpIn.done {w w3 wr w9 : World} {L g bx rs : Nat} {k n : Int} {s : ByteArray} {l : List Tm} {bv : Array Value} {A : Option Addr} {c : Nat} (h : CpIn w w3 L g l.length bx rs l bv l.length wr) (ok : TOk (.mk k n s l) A c) (hlen : l.length ≤ 1048576) (hL : nodesL l + 1 = L) (hgz : w3.heap.size = g + 1) (h1 : bx ≠ g) (h2 : rs ≠ g) (hx1 : w.heap.size ≤ bx) (hr1 : w.heap.size ≤ rs) (hx2 : bx < w3.heap.size) (hr2 : rs < w3.heap.size) (h0 : l.length ≠ 0)
    (hk : Keep (fun b => b = bx ∨ b = rs) wr w9) : CopiedW w (.mk k n s l) (.returned (.agg #[.int .i64 k, .int .i64 n, .string s, .slice (some ⟨g, 0, none⟩) l.length l.length])) w9 := by
  obtain ⟨hF, hS, hB, hR, hb0, hz⟩ := h
  have hgl := hF.lt
  have hz9 := hk.size
  rw [List.take_length] at hF
  have hd : ∀ b, (Fr w3 wr b ∨ b = g) → ¬ (b = bx ∨ b = rs) := fun b hb e => by
    rcases hb with hb | rfl
    · have := hb.1; omega
    · omega
  have hsub : ∀ b, (Fr w3 wr b ∨ b = g) → Fr w w9 b := fun b hb => by
    have := hgl.1; have := hgl.2
    rcases hb with hb | rfl
    · exact ⟨by have := hb.1; omega, by have := hb.2; omega⟩
    · exact ⟨by omega, by omega⟩
  refine ⟨_, rfl, ?_, hk.below hb0 hb0.size (fun b hb e => by omega), ?_⟩
  · exact TAt.of (t := .mk k n s l) ⟨ok.wk, ok.wn, ok.ws, Nat.le_refl _, by unfold maxLen; omega, fun h => by cases h⟩ ((hF.done.keepF hk (fun b hb => by
      rcases hb with hb | rfl
      · exact hb.2
      · exact hgl.2) hd).mono hsub)
  · rw [nodes_mk, hL]
    exact ((hS.wk (G' := fun b => Fr w3 wr b ∨ b = g) hlen (fun b hb => .inl hb) (.inr rfl) k n s).keep hk hd).mono hsub
set_option maxRecDepth 100000 in
set_option maxHeartbeats 8000000 in
theorem copy1_any : ∀ t : Tm, CpC t := by
  refine Tm.ind fun t ih hn v w a h ha => ?_
  obtain ⟨k, n, s, l, A, c, rfl, rfl, ok, hl⟩ := h.open_
  simp only [Tm.l_mk] at ih
  have HN := Lib.hid hn
  rw [nodes_mk] at hn
  have hlen : l.length ≤ 1048576 := by have := nodesL_len l; omega
  have hb2 : Below w.heap.size w ((w.alloc (.cells #[.int .i64 k, .int .i64 n, .string s, .slice A l.length c] 24)).alloc (.cells #[.int .i64 0, .int .i64 0, .string ⟨#[]⟩, .slice none 0 0] 24)) := ballocs (ballocs (Below.refl w.heap.size w) _) _
  have g0 := (Blk.new w 24 #[.int .i64 k, .int .i64 n, .string s, .slice A l.length c]).alloc (.cells #[.int .i64 0, .int .i64 0, .string ⟨#[]⟩, .slice none 0 0] 24)
  have g1 := Blk.new (w.alloc (.cells #[.int .i64 k, .int .i64 n, .string s, .slice A l.length c] 24)) 24 #[.int .i64 0, .int .i64 0, .string ⟨#[]⟩, .slice none 0 0]
  simp only [World.size_alloc] at g1
  have HO := Lib.hid ok
  have HA := Lib.hid ha
  by_cases hz : l.length = 0
  · obtain rfl : l = [] := List.eq_nil_of_length_eq_zero hz
    have HX := Lib.hid (show CopiedW w (.mk k n s []) (.returned (.agg #[.int .i64 k, .int .i64 n, .string s, .slice none 0 0])) ((w.alloc (.cells #[.int .i64 k, .int .i64 n, .string s, .slice none 0 0] 24)).alloc (.cells #[.int .i64 k, .int .i64 n, .string s, .slice none 0 0] 24)) from
      ⟨_, rfl, TAt.of (t := .mk k n s []) ⟨ok.wk, ok.wn, ok.ws, Nat.le_refl _, by simp [maxLen], fun _ => rfl⟩ (TsAt.nil _ _ _), ballocs (ballocs (Below.refl _ _) _) _, Wk.leaf _ _ _ _ _ _ _ _⟩)
    clear ih hl h ok ha hb2 g0 g1
    go_enter Try.func67, Try.ntmps67
    go_wp2_with fail
    exact bodyPost_ret (v := .agg #[.int .i64 k, .int .i64 n, .string s, .slice none 0 0]) (by simp [results, Try.results67, go_sem]) rfl HX.out
  · obtain ⟨w3, hmk, hF, hb3, hz3⟩ := make_row ((w.alloc (.cells #[.int .i64 k, .int .i64 n, .string s, .slice A l.length c] 24)).alloc (.cells #[.int .i64 0, .int .i64 0, .string ⟨#[]⟩, .slice none 0 0] 24)) w.heap.size l.length hb2.size hlen
    simp only [World.size_alloc] at hmk hF hz3
    obtain ⟨g, hg⟩ : ∃ g, w.heap.size + 1 + 1 = g := ⟨_, rfl⟩
    rw [hg] at hmk hF hz3
    obtain ⟨L, hL⟩ : ∃ L, nodesL l + 1 = L := ⟨_, rfl⟩
    have HB3 := Lib.hid (bnext hb2 hb3)
    have hg0 := g0.below hb3 (by simp; omega)
    have hg1 := g1.below hb3 (by simp)
    have HGE := Lib.hid hg
    have HZ := Lib.hid hz3
    have HI0 := Lib.hid (show CpIn w w3 L g l.length w.heap.size (w.heap.size + 1) l #[.int .i64 k, .int .i64 n, .string s, .slice A l.length c] 0 w3 from
      ⟨hF.more (fun _ h => h.elim) (fun b hb => by have := hb.1; have := hb.2; omega), fun j hj => by omega, hg0, hg1, HB3.out, Nat.le_refl _⟩)
    have HIH := Lib.hid (show ∀ u, u ∈ l → nodes u ≤ 1048576 ∧ nodes u + 1 ≤ L ∧ ∀ (v : Value) (w : World) (a : Nat), TA w u v → CpVar w a → Calls Try.prog 67 #[v, .pointer (some ⟨a, 0, none⟩)] w (CopiedW w u) from fun u hu => by
      have := nodesL_mem hu
      exact ⟨by omega, by omega, ih u hu (by omega)⟩)
    have HL := Lib.hid hl
    have HA3 := Lib.hid ha
    have HLL := Lib.hid hL
    have ha1 := ha.2
    have hgb : w.heap.size + 2 = g := hg
    clear ih hl h ok ha hb2 g0 g1 hF hb3 hz3 hg0 hg1 hL hg
    have hl0 : (0 : Int) < (l.length : Int) := by omega
    have hzf : ((l.length : Int) == 0) = false := by rw [beq_eq_false_iff_ne]; omega
    have c3 : w3.cell? ⟨w.heap.size, 3, none⟩ = some (.slice A l.length c) := HI0.out.2.2.1.four.2.2.2.1
    clear ha1 hgb
    go_enter Try.func67, Try.ntmps67
    go_wp2_with fail
    clear c3 hmk
    have hd0 : w.heap.size ≠ g := by have := HGE.out; omega
    have hd1 : w.heap.size + 1 ≠ g := by have := HGE.out; omega
    go_loopw [20] (fun x wr => ∃ i : Nat, i ≤ l.length ∧ x = .int .i64 (i : Int) ∧ CpIn w w3 L g l.length w.heap.size (w.heap.size + 1) l #[.int .i64 k, .int .i64 n, .string s, .slice A l.length c] i wr) (fun x _ => l.length - (intOf x).toNat)
    case atStart => exact ⟨0, Nat.zero_le _, rfl, HI0.out⟩
    case round =>
      obtain ⟨i, hi, rfl, hI⟩ := hrel
      have HI := Lib.hid hI
      clear hI
      by_cases hlt : i < l.length
      · obtain ⟨u, hu⟩ : ∃ u, l[i]? = some u := ⟨_, List.getElem?_eq_getElem hlt⟩
        have HB := Lib.hid HI.out.2.2.2.2.1
        obtain ⟨b, o, A1, c1, rfl, hb1, d0, d1, d2, d3, hta, _⟩ := (HL.out.later HB.out).at_ hu
        have HU := Lib.hid hu
        have HTA := Lib.hid hta
        have HM := Lib.hid (HIH.out u (List.mem_of_getElem? hu))
        have hva := (HA3.out.later HB.out).1
        have hva2 : a < wr.heap.size := (HA3.out.later HB.out).2
        have hi0 : (0 : Int) ≤ (i : Int) := by omega
        have hil : (i : Int) < (l.length : Int) := by omega
        clear hta hu
        have HBN := Lib.hid (show Below wr.heap.size wr (wr.alloc (.cells #[.int .i64 u.k, .int .i64 u.n, .string u.s, .slice A1 u.l.length c1] 24)) from ballocs (Below.refl _ _) _)
        go_wp2_with fail
        obtain ⟨w5, hw5⟩ : ∃ x, wr.alloc (.cells #[.int .i64 u.k, .int .i64 u.n, .string u.s, .slice A1 u.l.length c1] 24) = x := ⟨_, rfl⟩
        rw [hw5] at HBN ⊢
        clear hw5
        refine (HM.out.2.2 _ w5 a (HTA.out.later HBN.out) (HA3.out.later (below_later HB.out HBN.out))).mono ?_
        rintro e w6 ⟨v2, rfl, hx, hb6, hw6⟩
        obtain ⟨A4, c4, rfl, ok4, _⟩ := hx.inv
        unfold tv at hx hw6 ⊢
        obtain ⟨⟨⟨y0, e0⟩, ⟨y1, e1⟩, ⟨y2, e2⟩, ⟨y3, e3⟩, f0, f1, f2, f3⟩, hI2⟩ := HI.out.step HU.out rfl (HBN.out.trans (hb6.mono HBN.out.size)) HBN.out.size hx (hw6.up HM.out.2.1) (by have := HZ.out; omega) hd0 hd1
        have HI2 := Lib.hid hI2
        clear hx hb6 hw6 hI2 ok4 d0 d1 d2 d3 hva hva2
        go_wp2_with fail
        go_roundw
        case rel => exact ⟨i + 1, by omega, by go_num, HI2.out⟩
        case measure => simp [intOf]; omega
      · obtain rfl : i = l.length := by omega
        obtain ⟨p0, p1, p2, p3, q0, q1, q2, q3⟩ := HI.out.2.2.1.four
        obtain ⟨r0, r1, r2, r3, s0, s1, s2, s3⟩ := HI.out.2.2.2.1.four
        have hne : w.heap.size ≠ w.heap.size + 1 := by omega
        go_wp2_with fail
        refine bodyPost_ret (v := .agg #[.int .i64 k, .int .i64 n, .string s, .slice (some ⟨g, 0, none⟩) l.length l.length]) (by simp [results, Try.results67, go_sem, r0, r1, r2, r3]) rfl ?_
        refine HI.out.done HO.out hlen HLL.out HZ.out hd0 hd1 (Nat.le_refl _) (Nat.le_succ _) (by have := HZ.out; have := HGE.out; omega) (by have := HZ.out; have := HGE.out; omega) hz ?_
        exact (((((Keep.refl (fun b => b = w.heap.size ∨ b = w.heap.size + 1) wr).setCell (p := ⟨w.heap.size, 3, none⟩) (.inl (.inl rfl)) _).setCell (p := ⟨w.heap.size + 1, 0, none⟩) (.inl (.inr rfl)) _).setCell (p := ⟨w.heap.size + 1, 1, none⟩) (.inl (.inr rfl)) _).setCell (p := ⟨w.heap.size + 1, 2, none⟩) (.inl (.inr rfl)) _).setCell (p := ⟨w.heap.size + 1, 3, none⟩) (.inl (.inr rfl)) _
set_option maxRecDepth 100000 in
set_option maxHeartbeats 4000000 in
theorem copyT_any (t : Tm) (hn : nodes t ≤ 1048576) (v : Value) (w : World) (h : TA w t v) : Calls Try.prog 50 #[v] w (CopiedW w t) := by
  obtain ⟨k, n, s, l, A, c, rfl, rfl, ok, hl⟩ := h.open_
  have hmf : ∀ (fn : Fn) (first cap : Array Value) (w : World), (Instr.makeFunc fn first cap).run Try.prog w = .ok (.func fn first cap) w := fun _ _ _ _ => rfl
  have HT := Lib.hid h
  have HN := Lib.hid hn
  clear h ok hl hn
  go_enter Try.func50, Try.ntmps50
  go_wp2_with fail
  obtain ⟨w3, hw3⟩ : ∃ x, (((w.alloc (.cells #[.int .i64 k, .int .i64 n, .string s, .slice A l.length c] 24)).alloc (.cells #[.int .i64 0, .int .i64 0, .string ⟨#[]⟩, .slice none 0 0] 24)).alloc (.cells #[.func (.func 67) #[] #[.pointer (some ⟨w.heap.size + 1 + 1, 0, none⟩)]] 27)) = x := ⟨_, rfl⟩
  have hb3 : Below w.heap.size w w3 := by rw [← hw3]; exact ballocs (ballocs (ballocs (Below.refl w.heap.size w) _) _) _
  have hz3 : w3.heap.size = w.heap.size + 1 + 1 + 1 := by rw [← hw3]; simp
  have g1 : Blk w3 (w.heap.size + 1) 24 #[.int .i64 0, .int .i64 0, .string ⟨#[]⟩, .slice none 0 0] := by
    have h := Blk.new (w.alloc (.cells #[.int .i64 k, .int .i64 n, .string s, .slice A l.length c] 24)) 24 #[.int .i64 0, .int .i64 0, .string ⟨#[]⟩, .slice none 0 0]
    simp only [World.size_alloc] at h
    rw [← hw3]; exact h.alloc _
  have hv : CpVar w3 (w.heap.size + 1 + 1) := by
    have h := Blk.new ((w.alloc (.cells #[.int .i64 k, .int .i64 n, .string s, .slice A l.length c] 24)).alloc (.cells #[.int .i64 0, .int .i64 0, .string ⟨#[]⟩, .slice none 0 0] 24)) 27 #[.func (.func 67) #[] #[.pointer (some ⟨w.heap.size + 1 + 1, 0, none⟩)]]
    simp only [World.size_alloc] at h
    rw [hw3] at h
    exact ⟨by rw [h.cell]; rfl, h.lt⟩
  rw [hw3]
  clear hw3
  refine (copy1_any _ HN.out _ w3 _ (HT.out.later hb3) hv).mono ?_
  rintro e w6 ⟨v2, rfl, hx, hb6, hw6⟩
  obtain ⟨A4, c4, rfl, ok4, _⟩ := hx.inv
  unfold tv at hx hw6 ⊢
  simp only [Tm.k_mk, Tm.n_mk, Tm.s_mk, Tm.l_mk] at hx hw6 ⊢
  obtain ⟨r0, r1, r2, r3, s0, s1, s2, s3⟩ := (g1.below hb6 g1.lt).four
  have HX := Lib.hid hx
  have HW := Lib.hid hw6
  have HB6 := Lib.hid hb6
  have HB3 := Lib.hid hb3
  have HZ := Lib.hid hz3
  clear hx hw6 hb6 hb3 hz3 g1 hv ok4
  go_wp2_with fail
  refine bodyPost_ret (v := .agg #[.int .i64 k, .int .i64 n, .string s, .slice A4 l.length c4]) (by simp [results, Try.results50, go_sem, r0, r1, r2, r3]) rfl ?_
  have kk := put4_keep (Keep.refl (fun b => b = w.heap.size + 1) w6) (g := w.heap.size + 1) (.inl rfl) (.int .i64 k) (.int .i64 n) (.string s) (.slice A4 l.length c4)
  have hz := put4_size w6 (w.heap.size + 1) (.int .i64 k) (.int .i64 n) (.string s) (.slice A4 l.length c4)
  have hsub : ∀ b, Fr w3 w6 b → Fr w (put4 w6 (w.heap.size + 1) (.int .i64 k) (.int .i64 n) (.string s) (.slice A4 l.length c4)) b := fun b hb => ⟨by have := HZ.out; have := hb.1; omega, by rw [hz]; exact hb.2⟩
  have hd : ∀ b, Fr w3 w6 b → ¬ b = w.heap.size + 1 := fun b hb e => by have := HZ.out; have := hb.1; omega
  exact ⟨_, rfl, (HX.out.keepF kk (fun b hb => hb.2) hd).mono hsub, put4_below (below_later HB3.out HB6.out) (Nat.le_succ _) _ _ _ _, (HW.out.keep kk hd).mono hsub⟩
end Go.Proofs.Ytlaplakaifmpeaa.K
