/- tenurelaw02.turned, by a contract: another term. -/
import Derived.Test.YtiknelmaepkdkaaCopyTm
import Derived.Test.YtiknelmaepkdkaaTmBig
import Derived.Test.YtiknelmaepkdkaaSteps
import Derived.Test.YtiknelmaepkdkaaGrow
import Derived.Laws.Bits64
namespace Go.Proofs.Ytiknelmaepkdkaa.K
open Go.RowKit
set_option linter.unusedVariables false
set_option linter.unusedSimpArgs false

theorem TsVs.set {w : World} {F : Nat → Prop} {l : List Tm} {vs : List Value} {u : Tm} {x : Value} (h : TsVs w F l vs) (hx : TAt w F u x) (i : Nat) : TsVs w F (l.set i u) (vs.set i x) := by
  induction h generalizing i with
  | nil => exact .nil
  | cons h r ih =>
    cases i with
    | zero => exact .cons hx r
    | succ i => exact .cons h (ih i)
theorem flat_set {x0 x1 x2 x3 : Value} : ∀ (vs : List Value) (i : Nat), (∀ v ∈ vs, v.cells.toList.length = 4) → i < vs.length → flat (vs.set i (.agg #[x0, x1, x2, x3])) = ((((flat vs).set (i * 4) x0).set (i * 4 + 1) x1).set (i * 4 + 2) x2).set (i * 4 + 3) x3
  | [], i, _, hi => by simp at hi
  | v :: vs, 0, h, _ => by
    have h4 := h v (by simp)
    rw [List.set_cons_zero, show flat (Value.agg #[x0, x1, x2, x3] :: vs) = [x0, x1, x2, x3] ++ flat vs from rfl, show flat (v :: vs) = v.cells.toList ++ flat vs from rfl]
    match v.cells.toList, h4 with
    | [a, b, c, d], _ => rfl
  | v :: vs, i + 1, h, hi => by
    have h4 := h v (by simp)
    have ih := flat_set (x0 := x0) (x1 := x1) (x2 := x2) (x3 := x3) vs i (fun u hu => h u (by simp [hu])) (by simpa using hi)
    rw [List.set_cons_succ, show flat (v :: vs.set i (.agg #[x0, x1, x2, x3])) = v.cells.toList ++ flat (vs.set i (.agg #[x0, x1, x2, x3])) from rfl, ih, show flat (v :: vs) = v.cells.toList ++ flat vs from rfl]
    match v.cells.toList, h4 with
    | [a, b, c, d], _ =>
      rw [show (i + 1) * 4 = i * 4 + 4 by omega]
      simp
theorem TsVs.cells4 {w : World} {F : Nat → Prop} {l : List Tm} {vs : List Value} (h : TsVs w F l vs) : ∀ v ∈ vs, v.cells.toList.length = 4 := by
  induction h with
  | nil => simp
  | cons h r ih =>
    intro v hv
    simp only [List.mem_cons] at hv
    rcases hv with rfl | hv
    · exact h.cells4
    · exact ih v hv
/-- A row of our own behind B, of terms in blocks F. -/
def VRow (w : World) (B : Nat) (F : Nat → Prop) (b n c : Nat) (l : List Tm) : Prop := ∃ vs, TsVs w F l vs ∧ w.ownsRow B 24 4 (.slice (some ⟨b, 0, none⟩) n c) n (flat vs) ∧ n = l.length ∧ (∀ r, F r → r ≠ b)
section
variable {w w' : World} {B b n c i : Nat} {F G : Nat → Prop} {l : List Tm} {u : Tm}
theorem VRow.later (h : VRow w B F b n c l) (hF : ∀ r, F r → r < w.heap.size) (hb : Below w.heap.size w w') : VRow w' B F b n c l := by
  obtain ⟨vs, h1, h2, h3, h4⟩ := h
  exact ⟨vs, h1.keep fun p hp => hb.cell (hF _ hp), ownsRow_below h2 hb (fun r hr => (h2.lt r hr).2), h3, h4⟩
theorem VRow.spot (h : VRow w B F b n c l) (hi : i < n) : (∃ x, w.cell? ⟨b, i * 4, none⟩ = some x) ∧ (∃ x, w.cell? ⟨b, i * 4 + 1, none⟩ = some x) ∧ (∃ x, w.cell? ⟨b, i * 4 + 2, none⟩ = some x) ∧ (∃ x, w.cell? ⟨b, i * 4 + 3, none⟩ = some x) ∧
    w.frozen? ⟨b, i * 4, none⟩ = false ∧ w.frozen? ⟨b, i * 4 + 1, none⟩ = false ∧ w.frozen? ⟨b, i * 4 + 2, none⟩ = false ∧ w.frozen? ⟨b, i * 4 + 3, none⟩ = false := by
  obtain ⟨vs, hv, h, hn, _⟩ := h
  have hc := h.cells (g := b) rfl
  have hl := h.1
  have hcell : ∀ q, q < 4 → ∃ x, w.cell? ⟨b, i * 4 + q, none⟩ = some x := fun q hq => by
    have hlt : i * 4 + q < (flat vs).length := by omega
    have := hc (i * 4 + q) (flat vs)[i * 4 + q] (List.getElem?_eq_getElem hlt)
    rw [add_plain'] at this
    exact ⟨_, by simpa using this⟩
  exact ⟨hcell 0 (by omega), hcell 1 (by omega), hcell 2 (by omega), hcell 3 (by omega), h.frozenAt _, h.frozenAt _, h.frozenAt _, h.frozenAt _⟩
/-- Element i: its cells, and what it is. -/
theorem VRow.at_ (h : VRow w B F b n c l) (hu : l[i]? = some u) : ∃ A' c', w.cell? ⟨b, i * 4, none⟩ = some (.int .i64 u.k) ∧ w.cell? ⟨b, i * 4 + 1, none⟩ = some (.int .i64 u.n) ∧ w.cell? ⟨b, i * 4 + 2, none⟩ = some (.string u.s) ∧ w.cell? ⟨b, i * 4 + 3, none⟩ = some (.slice A' u.l.length c') ∧
    TAt w F u (.agg #[.int .i64 u.k, .int .i64 u.n, .string u.s, .slice A' u.l.length c']) := by
  obtain ⟨vs, hv, h, hn, _⟩ := h
  have hts : TsAt w (fun r => F r ∨ r = b) (some ⟨b, 0, none⟩) l := (hv.mono (fun _ h => .inl h)).slot h hn (fun r hr => .inr (by injection hr with hr; exact hr.symm))
  obtain ⟨v, hx, ht, hj⟩ := hv.at_ hu
  obtain ⟨A', c', rfl, ok, hl⟩ := ht.inv
  have hcell := h.cells (g := b) rfl
  have q0 := hcell (i * 4 + 0) _ ((hj 0 (by omega)).trans rfl)
  have q1 := hcell (i * 4 + 1) _ ((hj 1 (by omega)).trans rfl)
  have q2 := hcell (i * 4 + 2) _ ((hj 2 (by omega)).trans rfl)
  have q3 := hcell (i * 4 + 3) _ ((hj 3 (by omega)).trans rfl)
  simp only [add_plain', Nat.zero_add, Nat.add_zero] at q0 q1 q2 q3
  exact ⟨A', c', q0, q1, q2, q3, ht⟩
theorem VRow.put {y0 y1 y2 y3 : Value} (h : VRow w B F b n c l) (hi : i < n) (hx : TAt w G u (.agg #[y0, y1, y2, y3])) (hFG : ∀ r, F r → G r) (hG : ∀ r, G r → r ≠ b) : VRow (put4at w b (i * 4) y0 y1 y2 y3) B G b n c (l.set i u) := by
  obtain ⟨vs, hv, h, hn, hF⟩ := h
  have hk : ∀ p : Addr, G p.block → (put4at w b (i * 4) y0 y1 y2 y3).cell? p = w.cell? p := fun p hp => by
    have hn := hG _ hp
    unfold put4at
    rw [cell_far _ _ _ _ hn, cell_far _ _ _ _ hn, cell_far _ _ _ _ hn, cell_far _ _ _ _ hn]
  have h4 := (((((h.stored (i * 4) y0).1.stored (i * 4 + 1) y1).1.stored (i * 4 + 2) y2).1).stored (i * 4 + 3) y3).1
  rw [← flat_set vs i hv.cells4 (by rw [hv.len]; omega)] at h4
  exact ⟨_, ((hv.mono hFG).set hx i).keep hk, h4, by rw [List.length_set]; exact hn, hG⟩
theorem VRow.done (h : VRow w B F b n c l) (hF : ∀ r, F r → G r) (hb : G b) : TsAt w G (some ⟨b, 0, none⟩) l := by
  obtain ⟨vs, hv, h, hn, _⟩ := h
  exact (hv.mono hF).slot h hn (fun r hr => by injection hr with hr; exact hr ▸ hb)
end
theorem nodesL_set {l : List Tm} {i : Nat} {u x : Tm} (h : l[i]? = some u) (hx : nodes x = nodes u) : nodesL (l.set i x) = nodesL l := by
  induction l generalizing i with
  | nil => simp at h
  | cons a r ih =>
    cases i with
    | zero => simp at h; subst h; rw [List.set_cons_zero, nodesL_cons, nodesL_cons, hx]
    | succ i => rw [List.set_cons_succ, nodesL_cons, nodesL_cons, ih (by simpa using h)]
theorem set_ne {l : List Tm} {i : Nat} {u x : Tm} (h : l[i]? = some u) (hx : x ≠ u) : l.set i x ≠ l := fun e => by
  have hi := (List.getElem?_eq_some_iff.1 h).1
  rw [← e, List.getElem?_set_self hi] at h
  injection h with h
  exact hx h
theorem xor_one (n : Int) : (Lit.int .i64 (bits .xor .i64 n 1)).wf = true ∧ bits .xor .i64 n 1 ≠ n := by
  have e : bits .xor .i64 n 1 = IntKind.i64.wrap ((BitVec.ofInt 64 n ^^^ BitVec.ofInt 64 1).toNat : Int) := rfl
  have h1 : (BitVec.ofInt 64 1).toNat = 1 := by decide
  have h2 : ((BitVec.ofInt 64 n).toNat : Int) = n % 18446744073709551616 := by
    rw [BitVec.toNat_ofInt]
    simp
    omega
  have h3 : (BitVec.ofInt 64 n ^^^ BitVec.ofInt 64 1).toNat < 18446744073709551616 := (BitVec.ofInt 64 n ^^^ BitVec.ofInt 64 1).isLt
  have h4 : (BitVec.ofInt 64 n ^^^ BitVec.ofInt 64 1).toNat % 2 ≠ (BitVec.ofInt 64 n).toNat % 2 := by
    rw [BitVec.toNat_xor, h1]
    intro h5
    have h6 : Nat.testBit ((BitVec.ofInt 64 n).toNat ^^^ 1) 0 = Nat.testBit (BitVec.ofInt 64 n).toNat 0 := by
      rw [Nat.testBit_zero, Nat.testBit_zero, h5]
    rw [Nat.testBit_xor] at h6
    simp at h6
  obtain ⟨x, hx⟩ : ∃ x, (BitVec.ofInt 64 n ^^^ BitVec.ofInt 64 1).toNat = x := ⟨_, rfl⟩
  obtain ⟨y, hy⟩ : ∃ y, (BitVec.ofInt 64 n).toNat = y := ⟨_, rfl⟩
  rw [hx] at h3 h4
  rw [hy] at h2 h4
  rw [e, hx]
  simp only [IntKind.wrap, IntKind.bits, IntKind.signed, Lit.wf, IntKind.min, IntKind.max]
  simp
  constructor
  · split <;> omega
  · split <;> omega
def TurnC (t : Tm) : Prop := nodes t ≤ 400 → ∀ (q : Nat), q < nodes t → ∀ (v : Value) (w : World) (N : Nat), TAt w (· < N) t v → N ≤ w.heap.size →
  Calls Try.prog 38 #[v, .int .i64 (q : Int)] w fun e w' => ∃ u v', e = .returned v' ∧ TAt w' (fun b => b < N ∨ Fr w w' b) u v' ∧ u ≠ t ∧ nodes u = nodes t ∧ Below w.heap.size w w'
/-- What a round keeps. -/
def TIn (w : World) (N b5 c5 : Nat) (k n : Int) (s : ByteArray) (l : List Tm) (wr : World) : Prop :=
  VRow wr N (· < N) b5 l.length c5 l ∧ Blk wr w.heap.size 24 #[.int .i64 k, .int .i64 n, .string s, .slice (some ⟨b5, 0, none⟩) l.length c5] ∧ Blk wr (w.heap.size + 1) 24 #[.int .i64 0, .int .i64 0, .string ⟨#[]⟩, .slice none 0 0] ∧ Below w.heap.size w wr ∧ b5 < wr.heap.size ∧ w.heap.size + 2 ≤ b5
section
variable {w wr w' w7 : World} {N b5 c5 : Nat} {k n : Int} {s : ByteArray} {l : List Tm}
theorem TIn.later (h : TIn w N b5 c5 k n s l wr) (hN : N ≤ w.heap.size) (hb : Below wr.heap.size wr w') : TIn w N b5 c5 k n s l w' := by
  obtain ⟨h1, h2, h3, h4, h5, h6⟩ := h
  have := h4.size
  exact ⟨h1.later (fun r hr => by omega) hb, h2.below hb h2.lt, h3.below hb h3.lt, h4.trans (hb.mono h4.size), Nat.lt_of_lt_of_le h5 hb.size, h6⟩
theorem TIn.fin {w6 : World} {i : Nat} {u u' : Tm} {A4 : Option Addr} {c4 : Nat} {k' n' : Int} {s' : ByteArray} {len' : Nat} (h : TIn w N b5 c5 k n s l w7) (hN : N ≤ w.heap.size) (hu : l[i]? = some u) (hne : u' ≠ u) (hnn : nodes u' = nodes u) (hx : TAt w7 (fun b => b < N ∨ Fr w6 w7 b) u' (.agg #[.int .i64 k', .int .i64 n', .string s', .slice A4 len' c4])) (h6 : b5 < w6.heap.size) (h66 : w.heap.size + 2 ≤ w6.heap.size)
    (ok : (Lit.int .i64 k).wf = true ∧ (Lit.int .i64 n).wf = true ∧ s.size ≤ maxLen) (hc : l.length ≤ c5 ∧ c5 ≤ maxLen) :
    ∃ t' v', (Ending.returned (.agg #[.int .i64 k, .int .i64 n, .string s, .slice (some ⟨b5, 0, none⟩) l.length c5])) = .returned v' ∧
      TAt (put4 (put4at w7 b5 (i * 4) (.int .i64 k') (.int .i64 n') (.string s') (.slice A4 len' c4)) (w.heap.size + 1) (.int .i64 k) (.int .i64 n) (.string s) (.slice (some ⟨b5, 0, none⟩) l.length c5)) (fun b => b < N ∨ Fr w (put4 (put4at w7 b5 (i * 4) (.int .i64 k') (.int .i64 n') (.string s') (.slice A4 len' c4)) (w.heap.size + 1) (.int .i64 k) (.int .i64 n) (.string s) (.slice (some ⟨b5, 0, none⟩) l.length c5)) b) t' v' ∧ t' ≠ .mk k n s l ∧ nodes t' = nodes (.mk k n s l) ∧
      Below w.heap.size w (put4 (put4at w7 b5 (i * 4) (.int .i64 k') (.int .i64 n') (.string s') (.slice A4 len' c4)) (w.heap.size + 1) (.int .i64 k) (.int .i64 n) (.string s) (.slice (some ⟨b5, 0, none⟩) l.length c5)) := by
  obtain ⟨h1, h2, h3, h4, h5, h7⟩ := h
  have hi := (List.getElem?_eq_some_iff.1 hu).1
  have hp := h1.put (i := i) hi hx (fun r hr => .inl hr) (fun r hr e => by rcases hr with hr | hr; omega; have := hr.1; omega)
  have hz : (put4at w7 b5 (i * 4) (.int .i64 k') (.int .i64 n') (.string s') (.slice A4 len' c4)).heap.size = w7.heap.size := put4at_size _ _ _ _ _ _ _
  have hz4 := h4.size
  have hts := hp.done (G := fun b => (b < N ∨ Fr w6 w7 b) ∨ b = b5) (fun r hr => .inl hr) (.inr rfl)
  have kk := put4_keep (Keep.refl (fun b => b = w.heap.size + 1) (put4at w7 b5 (i * 4) (.int .i64 k') (.int .i64 n') (.string s') (.slice A4 len' c4))) (g := w.heap.size + 1) (.inl rfl) (.int .i64 k) (.int .i64 n) (.string s) (.slice (some ⟨b5, 0, none⟩) l.length c5)
  have hz9 := put4_size (put4at w7 b5 (i * 4) (.int .i64 k') (.int .i64 n') (.string s') (.slice A4 len' c4)) (w.heap.size + 1) (.int .i64 k) (.int .i64 n) (.string s) (.slice (some ⟨b5, 0, none⟩) l.length c5)
  have hb := put4_below ((put4at_keeps w7 b5 (i * 4) (.int .i64 k') (.int .i64 n') (.string s') (.slice A4 len' c4)).below h4 hz4 (fun b hb e => by subst e; omega)) (g := w.heap.size + 1) (Nat.le_succ _) (.int .i64 k) (.int .i64 n) (.string s) (.slice (some ⟨b5, 0, none⟩) l.length c5)
  have ht := TAt.of (t := .mk k n s (l.set i u')) (A := some ⟨b5, 0, none⟩) (c := c5) ⟨ok.1, ok.2.1, ok.2.2, by simp; exact hc.1, hc.2, fun h => by cases h⟩ ((hts.keepF kk (fun b hb => by
      rw [hz]
      rcases hb with (hb | hb) | hb
      · omega
      · exact hb.2
      · rw [hb]; exact h5) (fun b hb e => by
      rcases hb with (hb | hb) | hb
      · omega
      · have := hb.1; omega
      · omega)).mono (G := fun b => b < N ∨ Fr w _ b) (fun b hb => by
      rcases hb with (hb | hb) | hb
      · exact .inl hb
      · exact .inr ⟨by have := hb.1; omega, by rw [hz9, hz]; exact hb.2⟩
      · exact .inr ⟨by omega, by rw [hz9, hz, hb]; exact h5⟩))
  unfold tv at ht
  simp only [Tm.k_mk, Tm.n_mk, Tm.s_mk, Tm.l_mk, List.length_set] at ht
  exact ⟨_, _, rfl, ht, fun e => set_ne hu hne (congrArg Tm.l e), by rw [nodes_mk, nodes_mk, nodesL_set hu hnn], hb⟩
end
set_option maxRecDepth 100000 in
set_option maxHeartbeats 8000000 in
theorem turned_any : ∀ t : Tm, TurnC t := by
  refine Tm.ind fun t ih hn q hq v w N h hN => ?_
  obtain ⟨A, c, rfl, ok, hl⟩ := h.inv
  obtain ⟨k, n, s, l⟩ := t
  unfold tv
  simp only [Tm.k_mk, Tm.n_mk, Tm.s_mk, Tm.l_mk] at ih hl ⊢
  have hF : ∀ b, b < N → b < w.heap.size := fun b hb => by omega
  rcases q with _ | q
  · have HX := Lib.hid (show ∃ u v', Ending.returned (.agg #[.int .i64 k, .int .i64 (bits .xor .i64 n 1), .string s, .slice A l.length c]) = .returned v' ∧ TAt ((w.alloc (.cells #[.int .i64 k, .int .i64 (bits .xor .i64 n 1), .string s, .slice A l.length c] 24)).alloc (.cells #[.int .i64 k, .int .i64 (bits .xor .i64 n 1), .string s, .slice A l.length c] 24)) (fun b => b < N ∨ Fr w ((w.alloc (.cells #[.int .i64 k, .int .i64 (bits .xor .i64 n 1), .string s, .slice A l.length c] 24)).alloc (.cells #[.int .i64 k, .int .i64 (bits .xor .i64 n 1), .string s, .slice A l.length c] 24)) b) u v' ∧ u ≠ .mk k n s l ∧ nodes u = nodes (.mk k n s l) ∧ Below w.heap.size w ((w.alloc (.cells #[.int .i64 k, .int .i64 (bits .xor .i64 n 1), .string s, .slice A l.length c] 24)).alloc (.cells #[.int .i64 k, .int .i64 (bits .xor .i64 n 1), .string s, .slice A l.length c] 24)) from
      ⟨.mk k (bits .xor .i64 n 1) s l, _, rfl, (TAt.of (t := .mk k (bits .xor .i64 n 1) s l) ⟨ok.wk, (xor_one n).1, ok.ws, ok.hl, ok.hc, ok.hA⟩ (((hl.alloc hF _).alloc (fun b hb => by have := hF b hb; simp; omega) _).mono (fun _ h => .inl h))), fun e => (xor_one n).2 (congrArg Tm.n e), by rw [nodes_mk, nodes_mk], ballocs (ballocs (Below.refl _ _) _) _⟩)
    clear ih hl h ok hF hq hn hN
    go_enter Try.func38, Try.ntmps38
    go_wp2_with fail
    exact bodyPost_ret (v := .agg #[.int .i64 k, .int .i64 (bits .xor .i64 n 1), .string s, .slice A l.length c]) (by simp [results, Try.results38, go_sem]) rfl HX.out
  · rw [nodes_mk] at hn hq
    have hlen : l.length ≤ 400 := by have := nodesL_len l; omega
    have hb2 : Below w.heap.size w ((w.alloc (.cells #[.int .i64 k, .int .i64 n, .string s, .slice A l.length c] 24)).alloc (.cells #[.int .i64 0, .int .i64 0, .string ⟨#[]⟩, .slice none 0 0] 24)) := ballocs (ballocs (Below.refl w.heap.size w) _) _
    have g0 := ((Blk.new w 24 #[.int .i64 k, .int .i64 n, .string s, .slice A l.length c]).alloc (.cells #[.int .i64 0, .int .i64 0, .string ⟨#[]⟩, .slice none 0 0] 24)).alloc (.cells #[] 24)
    have g1 := (Blk.new (w.alloc (.cells #[.int .i64 k, .int .i64 n, .string s, .slice A l.length c] 24)) 24 #[.int .i64 0, .int .i64 0, .string ⟨#[]⟩, .slice none 0 0]).alloc (.cells #[] 24)
    simp only [World.size_alloc] at g1
    have hrow := ORow.new (B := N) ((w.alloc (.cells #[.int .i64 k, .int .i64 n, .string s, .slice A l.length c] 24)).alloc (.cells #[.int .i64 0, .int .i64 0, .string ⟨#[]⟩, .slice none 0 0] 24)) (Nat.le_trans hN hb2.size)
    have hb3 := ballocs hb2 (.cells #[] 24)
    obtain ⟨v4, w4, run4, o4, gr4, at4⟩ := hrow.append (Nat.le_trans hN hb3.size) (hl.under (B := w.heap.size) hb3 hF) (by simp; omega) (c := c)
    rw [List.nil_append] at o4
    obtain ⟨vs, hvs, o4⟩ := o4
    have hlp : 0 < l.length := by
      rcases Nat.eq_zero_or_pos l.length with h0 | h0
      · rw [List.eq_nil_of_length_eq_zero h0, nodesL_nil] at hq; omega
      · exact h0
    obtain ⟨b5, c5, rfl, _, hbl⟩ := o4.form hlp
    have hc5 : l.length ≤ c5 ∧ c5 ≤ maxLen := by
      obtain ⟨_, _, e, e1, e2⟩ := ownsRow_form o4
      injection e with _ _ e
      subst e
      exact ⟨e1, e2⟩
    have hb5 : w.heap.size + 2 ≤ b5 := by
      rcases at4 with e | e
      · injection e with e; simp at e; omega
      · injection e with e; simp at e; omega
    simp only [World.size_alloc] at run4 gr4
    have hb4 : Below w.heap.size w w4 := hb3.grown gr4 hb3.size (fun r hr => by injection hr with hr; simp at hr; omega)
    have h0 := g0.grown gr4 (fun e => by have h := Option.some.inj e; have h2 : w.heap.size = w.heap.size + 1 + 1 := h; omega)
    have h1 := g1.grown gr4 (fun e => by have h := Option.some.inj e; have h2 : w.heap.size + 1 = w.heap.size + 1 + 1 := h; omega)
    have hne5 : b5 ≠ w.heap.size := by omega
    have HI0 := Lib.hid (show TIn w N b5 c5 k n s l (w4.setCell ⟨w.heap.size, 3, none⟩ (.slice (some ⟨b5, 0, none⟩) l.length c5)) from by
      refine ⟨⟨vs, hvs.keep fun p hp => cell_far _ _ _ _ (by have := hF _ hp; intro e; simp at e; omega), ?_, rfl, fun r hr => by omega⟩, ?_, h1.far (by simp) _, hb4.setCell (p := ⟨w.heap.size, 3, none⟩) (Nat.le_refl _) _, by simp [World.setCell]; exact hbl, hb5⟩
      · exact ownsRow_keep o4 (Keep.setCell (F := fun b => b = w.heap.size) (p := ⟨w.heap.size, 3, none⟩) (Keep.refl _ _) (.inl rfl) _) (fun r hr e => by injection hr with hr; simp at hr; omega)
      · have := h0.set_ 3 (.slice (some ⟨b5, 0, none⟩) l.length c5)
        simpa using this)
    obtain ⟨z0, z1, z2, z3, y0, y1, y2, y3⟩ := h0.four
    have HRUN := Lib.hid run4
    have HOK := Lib.hid (And.intro ok.wk (And.intro ok.wn ok.ws))
    have HC5 := Lib.hid hc5
    have HIH := Lib.hid ih
    have HNN := Lib.hid hn
    have HQ := Lib.hid hq
    have HN := Lib.hid hN
    clear ih hl h ok hF hb2 g0 g1 hrow hb3 run4 gr4 hvs o4 at4 hc5 h0 h1 hb4 hn hq hN hbl
    have hq1 : (q : Int) ≤ 400 := by have := HQ.out; have := HNN.out; omega
    rw [show ((q + 1 : Nat) : Int) = (q : Int) + 1 by omega]
    have hq2 : ((q : Int) + 1 == 0) = false := by rw [beq_eq_false_iff_ne]; omega
    go_enter Try.func38, Try.ntmps38
    go_wp2_with (first
      | (at_builtin; refine wpList_append_run (o := ⟨some 17, _, _, _, _, _⟩) (.tmp 14) (.tmp 16) 22 _ _ _ HRUN.out rfl rfl (by simp [Act.eval, Act.put]) (by simp [Act.eval, Act.put]) ?_)
      | fail)
    clear z0 z1 z2 z3 y0 y1 y2 y3 HRUN
    go_loopw [1, 5] (fun x y wr => ∃ i r : Nat, i ≤ l.length ∧ y = .int .i64 (i : Int) ∧ x = .int .i64 (r : Int) ∧ r + nodesL (l.take i) = q ∧ TIn w N b5 c5 k n s l wr) (fun _ y _ => l.length - (intOf y).toNat)
    case atStart => exact ⟨0, q, Nat.zero_le _, rfl, by go_num, by simp [nodesL_nil], HI0.out⟩
    case round =>
      obtain ⟨i, r, hi, rfl, rfl, hr, hI⟩ := hrel
      clear HI0
      have hlt : i < l.length := by
        rcases Nat.lt_or_ge i l.length with h | h
        · exact h
        · rw [List.take_of_length_le h] at hr; have := HQ.out; omega
      obtain ⟨u, hu⟩ : ∃ u, l[i]? = some u := ⟨_, List.getElem?_eq_getElem hlt⟩
      obtain ⟨A1, c1, d0, d1, d2, d3, hta⟩ := hI.1.at_ hu
      have hum := List.mem_of_getElem? hu
      have hun := nodesL_mem hum
      have hut := nodesL_take_succ hu
      have hu400 : nodes u ≤ 400 := by have := HNN.out; omega
      have HI := Lib.hid hI
      have HPA := Lib.hid (parts_any u 400 _ wr (by omega) (hta.mono (fun b hb => by have := HN.out; have := hI.2.2.2.1.size; omega)))
      rw [show min (nodes u) (400 + 1) = nodes u by omega] at HPA
      obtain ⟨m, hm⟩ : ∃ m, nodes u = m := ⟨_, rfl⟩
      have HT := Lib.hid (fun (hrm : r < nodes u) wx (hb : Below wr.heap.size wr wx) => HIH.out u hum hu400 r hrm _ wx N (hta.under hb (fun b hb' => by have := HN.out; have := hI.2.2.2.1.size; omega)) (by have := HN.out; have := hI.2.2.2.1.size; have := hb.size; omega))
      obtain ⟨p0, p1, p2, p3, q0, q1, q2, q3⟩ := hI.2.1.four
      rw [hm] at HPA HT hut hu400
      have HU := Lib.hid hu
      have HMM := Lib.hid hm
      have HR := Lib.hid (And.intro hr hut)
      have hi0 : (0 : Int) ≤ (i : Int) := by omega
      have hil : (i : Int) < (l.length : Int) := by omega
      have hr4 : r ≤ 400 := by omega
      clear hI hta hum hun hut hu hm hr p0 p1 p2 q0 q1 q2 q3
      go_wp2_with fail
      refine HPA.out.mono ?_
      rintro e w6 ⟨rfl, hb6⟩
      have HB6 := Lib.hid hb6
      have HI6 := Lib.hid (HI.out.later HN.out hb6)
      have e0 := (hb6.cell (p := ⟨b5, i * 4, none⟩) HI.out.2.2.2.2.1).trans d0
      have e1 := (hb6.cell (p := ⟨b5, i * 4 + 1, none⟩) HI.out.2.2.2.2.1).trans d1
      have e2 := (hb6.cell (p := ⟨b5, i * 4 + 2, none⟩) HI.out.2.2.2.2.1).trans d2
      have e3 := (hb6.cell (p := ⟨b5, i * 4 + 3, none⟩) HI.out.2.2.2.2.1).trans d3
      have p3 := (HI6.out.2.1).four.2.2.2.1
      clear d0 d1 d2 d3 hb6
      by_cases hrm : r < m
      · have hrd : decide ((r : Int) < (m : Int)) = true := decide_eq_true (by omega)
        have HC := Lib.hid (HT.out hrm w6.drew ⟨HB6.out.os, HB6.out.tape, HB6.out.output, HB6.out.size, HB6.out.block⟩)
        go_wp2_with fail
        go_region_law (first
          | (go_simp; go_at_call 38; refine HC.out.mono ?_; rintro e w7 ⟨u', v', rfl, hx, hne, hnn, hb7⟩
             obtain ⟨A4, c4, rfl, ok4, _⟩ := hx.inv
             unfold tv at hx ⊢
             have HI7 := Lib.hid (HI6.out.later HN.out (bundrew hb7))
             have hsp := HI7.out.1.spot hlt
             obtain ⟨⟨s0, t0⟩, ⟨s1, t1⟩, ⟨s2, t2⟩, ⟨s3, t3⟩, f0, f1, f2, f3⟩ := hsp
             obtain ⟨x0, x1, x2, x3, _, _, _, _⟩ := HI7.out.2.1.four
             obtain ⟨r0, r1, r2, r3, v0, v1, v2, v3⟩ := HI7.out.2.2.1.four
             have HX := Lib.hid hx
             have HNE := Lib.hid hne
             have HND := Lib.hid hnn
             clear hx hb7 hne ok4 hnn))
        all_goals
          have hne6 : w.heap.size ≠ b5 := fun e => hne5 e.symm
          have hne7 : b5 ≠ w.heap.size + 1 := by omega
          have hne8 : w.heap.size + 1 ≠ b5 := by omega
          go_wp2_with fail
          refine bodyPost_ret (v := .agg #[.int .i64 k, .int .i64 n, .string s, .slice (some ⟨b5, 0, none⟩) l.length c5]) (by simp [results, Try.results38, go_sem, r0, r1, r2, r3, hne7, hne8]) rfl ?_
          exact HI7.out.fin HN.out HU.out HNE.out (HND.out.trans HMM.out.symm) HX.out HI6.out.2.2.2.2.1 (show w.heap.size + 2 ≤ w6.heap.size from by have := HI6.out.2.2.2.2.1; omega) HOK.out HC5.out
      · have hrd : decide ((r : Int) < (m : Int)) = false := decide_eq_false (by omega)
        go_wp2_with fail
        exact ⟨⟨i + 1, r - m, by omega, by go_num, by go_num, by have := HR.out; omega, HI6.out⟩, by simp [intOf]; omega⟩
end Go.Proofs.Ytiknelmaepkdkaa.K
