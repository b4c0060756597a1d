/- Terms whose inner terms may be written over; a copy is such a one. -/
import Derived.Test.YtlaplakaifmpeaaTmCopy
import Derived.Test.YtlaplakaifmpeaaPartsA
import Derived.Laws.OwnMore
namespace Go.Proofs.Ytlaplakaifmpeaa.K
open Go.RowKit
set_option linter.unusedVariables false
set_option linter.unusedSimpArgs false

/-- n levels of terms lie in rows of the blocks F, each place of which may be written. -/
def Wk (w : World) (F : Nat → Prop) : Nat → Value → Prop
  | 0, _ => False
  | n + 1, v => ∃ (k m : Int) (s : ByteArray) (A : Option Addr) (len c : Nat), v = .agg #[.int .i64 k, .int .i64 m, .string s, .slice A len c] ∧ len ≤ 1048576 ∧
      ∀ i, i < len → ∃ (b : Nat) (x0 x1 x2 x3 : Value), A = some ⟨b, 0, none⟩ ∧ F b ∧ (w.cell? ⟨b, i * 4, none⟩ = some x0 ∧ w.cell? ⟨b, i * 4 + 1, none⟩ = some x1 ∧ w.cell? ⟨b, i * 4 + 2, none⟩ = some x2 ∧ w.cell? ⟨b, i * 4 + 3, none⟩ = some x3) ∧
        (w.frozen? ⟨b, i * 4, none⟩ = false ∧ w.frozen? ⟨b, i * 4 + 1, none⟩ = false ∧ w.frozen? ⟨b, i * 4 + 2, none⟩ = false ∧ w.frozen? ⟨b, i * 4 + 3, none⟩ = false) ∧ Wk w F n (.agg #[x0, x1, x2, x3])
section
variable {w w' w3 : World} {F G H : Nat → Prop} {v v' x : Value} {n m : Nat} {l : List Tm} {vs : List Value} {u : Tm} {o : Obj} {B L : Nat}
theorem Wk.mono (h : Wk w F n v) (hF : ∀ b, F b → G b) : Wk w G n v := by
  induction n generalizing v with
  | zero => exact h.elim
  | succ n ih =>
    obtain ⟨k, m, s, A, len, c, e, hl, h⟩ := h
    refine ⟨k, m, s, A, len, c, e, hl, fun i hi => ?_⟩
    obtain ⟨b, x0, x1, x2, x3, hA, hb, hc, hf, hw⟩ := h i hi
    exact ⟨b, x0, x1, x2, x3, hA, hF b hb, hc, hf, ih hw⟩
theorem Wk.up (h : Wk w F n v) (hn : n ≤ m) : Wk w F m v := by
  induction n generalizing v m with
  | zero => exact h.elim
  | succ n ih =>
    obtain ⟨m, rfl⟩ : ∃ k, m = k + 1 := ⟨m - 1, by omega⟩
    obtain ⟨k, m, s, A, len, c, e, hl, h⟩ := h
    refine ⟨k, m, s, A, len, c, e, hl, fun i hi => ?_⟩
    obtain ⟨b, x0, x1, x2, x3, hA, hb, hc, hf, hw⟩ := h i hi
    exact ⟨b, x0, x1, x2, x3, hA, hb, hc, hf, ih hw (by omega)⟩
theorem Wk.keep (h : Wk w F n v) (hk : Keep G w w') (hd : ∀ b, F b → ¬ G b) : Wk w' F n v := by
  induction n generalizing v with
  | zero => exact h.elim
  | succ n ih =>
    obtain ⟨k, m, s, A, len, c, e, hl, h⟩ := h
    refine ⟨k, m, s, A, len, c, e, hl, fun i hi => ?_⟩
    obtain ⟨b, x0, x1, x2, x3, hA, hb, ⟨c0, c1, c2, c3⟩, ⟨f0, f1, f2, f3⟩, hw⟩ := h i hi
    have hlt : b < w.heap.size := World.block_lt_of_cell? _ _ c0
    have hn := hd b hb
    exact ⟨b, x0, x1, x2, x3, hA, hb, ⟨(hk.cell (p := ⟨b, i * 4, none⟩) hlt hn).trans c0, (hk.cell (p := ⟨b, i * 4 + 1, none⟩) hlt hn).trans c1, (hk.cell (p := ⟨b, i * 4 + 2, none⟩) hlt hn).trans c2, (hk.cell (p := ⟨b, i * 4 + 3, none⟩) hlt hn).trans c3⟩,
      ⟨(hk.frozen (p := ⟨b, i * 4, none⟩) hlt hn).trans f0, (hk.frozen (p := ⟨b, i * 4 + 1, none⟩) hlt hn).trans f1, (hk.frozen (p := ⟨b, i * 4 + 2, none⟩) hlt hn).trans f2, (hk.frozen (p := ⟨b, i * 4 + 3, none⟩) hlt hn).trans f3⟩, ih hw⟩
theorem Wk.later (h : Wk w F n v) (hb : Below w.heap.size w w') : Wk w' F n v := h.keep (Keep.new (F := fun _ => False) hb) (fun _ _ h => h)
/-- A value that has no inner terms. -/
theorem Wk.leaf (w : World) (F : Nat → Prop) (n : Nat) (k m : Int) (s : ByteArray) (A : Option Addr) (c : Nat) : Wk w F (n + 1) (.agg #[.int .i64 k, .int .i64 m, .string s, .slice A 0 c]) :=
  ⟨k, m, s, A, 0, c, rfl, by omega, fun i hi => by omega⟩
theorem frozen_put4at (w : World) (g j : Nat) (y0 y1 y2 y3 : Value) (p : Addr) : (put4at w g j y0 y1 y2 y3).frozen? p = w.frozen? p := by
  unfold put4at
  rw [World.frozen?_setCell, World.frozen?_setCell, World.frozen?_setCell, World.frozen?_setCell]
theorem cell_put4at_far (w : World) (g j : Nat) (y0 y1 y2 y3 : Value) {b q : Nat} (h : b ≠ g ∨ q < j ∨ j + 4 ≤ q) : (put4at w g j y0 y1 y2 y3).cell? ⟨b, q, none⟩ = w.cell? ⟨b, q, none⟩ := by
  unfold put4at
  rw [World.cell?_setCell_other _ _ _ _ (by intro e; injection e with e1 e2; omega), World.cell?_setCell_other _ _ _ _ (by intro e; injection e with e1 e2; omega), World.cell?_setCell_other _ _ _ _ (by intro e; injection e with e1 e2; omega), World.cell?_setCell_other _ _ _ _ (by intro e; injection e with e1 e2; omega)]
theorem cell_put4at (w : World) (g j : Nat) (y0 y1 y2 y3 : Value) (h0 : ∃ x, w.cell? ⟨g, j, none⟩ = some x) (h1 : ∃ x, w.cell? ⟨g, j + 1, none⟩ = some x) (h2 : ∃ x, w.cell? ⟨g, j + 2, none⟩ = some x) (h3 : ∃ x, w.cell? ⟨g, j + 3, none⟩ = some x) :
    (put4at w g j y0 y1 y2 y3).cell? ⟨g, j, none⟩ = some y0 ∧ (put4at w g j y0 y1 y2 y3).cell? ⟨g, j + 1, none⟩ = some y1 ∧ (put4at w g j y0 y1 y2 y3).cell? ⟨g, j + 2, none⟩ = some y2 ∧ (put4at w g j y0 y1 y2 y3).cell? ⟨g, j + 3, none⟩ = some y3 := by
  obtain ⟨z0, h0⟩ := h0
  obtain ⟨z1, h1⟩ := h1
  obtain ⟨z2, h2⟩ := h2
  obtain ⟨z3, h3⟩ := h3
  unfold put4at
  refine ⟨?_, ?_, ?_, ?_⟩
  · rw [World.cell?_setCell_other _ _ _ _ (by intro e; injection e with _ e; omega), World.cell?_setCell_other _ _ _ _ (by intro e; injection e with _ e; omega), World.cell?_setCell_other _ _ _ _ (by intro e; injection e with _ e; omega)]
    exact World.cell?_setCell_same _ _ _ h0
  · rw [World.cell?_setCell_other _ _ _ _ (by intro e; injection e with _ e; omega), World.cell?_setCell_other _ _ _ _ (by intro e; injection e with _ e; omega)]
    exact World.cell?_setCell_same _ _ _ ((World.cell?_setCell_other _ _ _ _ (by intro e; injection e with _ e; omega)).trans h1)
  · rw [World.cell?_setCell_other _ _ _ _ (by intro e; injection e with _ e; omega)]
    exact World.cell?_setCell_same _ _ _ ((World.cell?_setCell_other _ _ _ _ (by intro e; injection e with _ e; omega)).trans ((World.cell?_setCell_other _ _ _ _ (by intro e; injection e with _ e; omega)).trans h2))
  · exact World.cell?_setCell_same _ _ _ ((World.cell?_setCell_other _ _ _ _ (by intro e; injection e with _ e; omega)).trans ((World.cell?_setCell_other _ _ _ _ (by intro e; injection e with _ e; omega)).trans ((World.cell?_setCell_other _ _ _ _ (by intro e; injection e with _ e; omega)).trans h3)))
/-- A place is written over with a term that has no inner ones. -/
theorem Wk.put {b j : Nat} {k0 m0 : Int} {s0 : ByteArray} (h : Wk w F n v) : Wk (put4at w b (j * 4) (.int .i64 k0) (.int .i64 m0) (.string s0) (.slice none 0 0)) F n v := by
  induction n generalizing v with
  | zero => exact h.elim
  | succ n ih =>
    obtain ⟨k, m, s, A, len, c, e, hl, h⟩ := h
    refine ⟨k, m, s, A, len, c, e, hl, fun i hi => ?_⟩
    obtain ⟨b', x0, x1, x2, x3, hA, hb, ⟨c0, c1, c2, c3⟩, ⟨f0, f1, f2, f3⟩, hw⟩ := h i hi
    have hfz : (put4at w b (j * 4) (.int .i64 k0) (.int .i64 m0) (.string s0) (.slice none 0 0)).frozen? ⟨b', i * 4, none⟩ = false ∧ (put4at w b (j * 4) (.int .i64 k0) (.int .i64 m0) (.string s0) (.slice none 0 0)).frozen? ⟨b', i * 4 + 1, none⟩ = false ∧ (put4at w b (j * 4) (.int .i64 k0) (.int .i64 m0) (.string s0) (.slice none 0 0)).frozen? ⟨b', i * 4 + 2, none⟩ = false ∧ (put4at w b (j * 4) (.int .i64 k0) (.int .i64 m0) (.string s0) (.slice none 0 0)).frozen? ⟨b', i * 4 + 3, none⟩ = false := by
      simp only [frozen_put4at]
      exact ⟨f0, f1, f2, f3⟩
    by_cases hs : b' = b ∧ i = j
    · obtain ⟨rfl, rfl⟩ := hs
      refine ⟨b', _, _, _, _, hA, hb, cell_put4at w b' (i * 4) _ _ _ _ ⟨_, c0⟩ ⟨_, c1⟩ ⟨_, c2⟩ ⟨_, c3⟩, hfz, ?_⟩
      cases n with
      | zero => exact hw.elim
      | succ n => exact Wk.leaf _ _ _ _ _ _ _ _
    · have hd : ∀ r, r < 4 → b' ≠ b ∨ i * 4 + r < j * 4 ∨ j * 4 + 4 ≤ i * 4 + r := fun r hr => by
        by_cases hb' : b' = b
        · have : i ≠ j := fun e => hs ⟨hb', e⟩
          omega
        · exact .inl hb'
      exact ⟨b', x0, x1, x2, x3, hA, hb, ⟨(cell_put4at_far _ _ _ _ _ _ _ (hd 0 (by omega))).trans c0, (cell_put4at_far _ _ _ _ _ _ _ (hd 1 (by omega))).trans c1, (cell_put4at_far _ _ _ _ _ _ _ (hd 2 (by omega))).trans c2, (cell_put4at_far _ _ _ _ _ _ _ (hd 3 (by omega))).trans c3⟩, hfz, ih hw⟩

/-! ### Rows of our own of such terms -/
def WRow (w : World) (B L : Nat) (v : Value) (l : List Tm) : Prop :=
  ∃ G vs, TsVs w G l vs ∧ (∀ x ∈ vs, Wk w G L x) ∧ (∀ b, G b → b < w.heap.size ∧ B ≤ b ∧ v.ownBlock ≠ some b) ∧ w.ownsRow B 24 4 v l.length (flat vs)
theorem WRow.none_ (w : World) (B L : Nat) : WRow w B L (.slice none 0 0) [] :=
  ⟨fun _ => False, [], .nil, fun x hx => by simp at hx, fun b h => h.elim, World.ownsRow_nil _ _ _ _⟩
theorem WRow.form (h : WRow w B L v l) : ∃ A c, v = .slice A l.length c ∧ l.length ≤ c ∧ c ≤ maxLen ∧ (A = none → c = 0) := by
  obtain ⟨G, vs, _, _, _, hR⟩ := h
  rcases hR.2 with ⟨rfl, hn⟩ | ⟨g, cap, cur, rfl, hg, hh, h1, h2, _⟩
  · exact ⟨none, 0, by rw [hn], by omega, by simp [maxLen], fun _ => rfl⟩
  · exact ⟨_, _, rfl, h1, h2, fun h => by cases h⟩
theorem WRow.slAt (h : WRow w B L v l) (hF : ∀ b, b < w.heap.size → B ≤ b → F b) : SlAt w F v l := by
  obtain ⟨A, c, rfl, h1, h2, h3⟩ := h.form
  obtain ⟨G, vs, hV, _, hG, hR⟩ := h
  exact ⟨A, c, rfl, h1, h2, h3, (hV.mono fun b hb => hF b (hG b hb).1 (hG b hb).2.1).slot hR rfl (fun r hr => hF r (hR.lt r hr).2 (hR.lt r hr).1)⟩
theorem WRow.snoc (hV : TsVs w G l vs) (hW : ∀ x ∈ vs, Wk w G L x) (hG : ∀ b, G b → b < w.heap.size ∧ B ≤ b ∧ v.ownBlock ≠ some b) (hx : TAt w H u x) (hxW : Wk w H L x) (hH : ∀ b, H b → b < w.heap.size ∧ B ≤ b ∧ v.ownBlock ≠ some b)
    (hg : (w.alloc o).grownBy w3 v.ownBlock) (hR : w3.ownsRow B 24 4 v' (l.length + 1) (flat vs ++ x.cells.toList)) (hat : v'.ownBlock = v.ownBlock ∨ v'.ownBlock = some (w.alloc o).heap.size) : WRow w3 B L v' (l ++ [u]) := by
  have hsz : w.heap.size + 1 ≤ w3.heap.size := by have := hg.size; simpa using this
  have hk : Keep (fun b => v.ownBlock = some b) w w3 := ((Keep.refl _ w).alloc o).grown hg (fun b hb => .inl hb)
  have hkc : ∀ b, b < w.heap.size → v.ownBlock ≠ some b → w3.heap[b]? = w.heap[b]? := fun b hb hn => (hg.block b (by simp; omega) (fun e => hn e.symm)).trans (Below.heap_alloc w o b hb)
  refine ⟨fun b => G b ∨ H b, vs ++ [x], ?_, fun y hy => ?_, fun b hb => ?_, ?_⟩
  · refine TsVs.append ((hV.mono (fun b h => .inl h)).keep fun p hp => ?_) (.one ((hx.mono (fun b h => .inr h)).keep fun p hp => ?_))
    · rcases hp with hp | hp
      · exact World.cell?_of_block (w := w) (hkc _ (hG _ hp).1 (hG _ hp).2.2)
      · exact World.cell?_of_block (w := w) (hkc _ (hH _ hp).1 (hH _ hp).2.2)
    · rcases hp with hp | hp
      · exact World.cell?_of_block (w := w) (hkc _ (hG _ hp).1 (hG _ hp).2.2)
      · exact World.cell?_of_block (w := w) (hkc _ (hH _ hp).1 (hH _ hp).2.2)
  · rcases List.mem_append.1 hy with hy | hy
    · exact ((hW y hy).keep hk (fun b hb e => (hG b hb).2.2 e)).mono (fun b h => .inl h)
    · simp at hy
      subst hy
      exact (hxW.keep hk (fun b hb e => (hH b hb).2.2 e)).mono (fun b h => .inr h)
  · have h0 : b < w.heap.size ∧ B ≤ b ∧ v.ownBlock ≠ some b := hb.elim (hG b) (hH b)
    refine ⟨by omega, h0.2.1, ?_⟩
    rcases hat with h | h
    · rw [h]; exact h0.2.2
    · rw [h]; intro e; injection e with e; simp at e; omega
  · rw [List.length_append, flat_snoc]
    exact hR
/-- The row's terms, one level down. -/
theorem WRow.wk {A : Option Addr} {c : Nat} (h : WRow w B L (.slice A l.length c) l) (hl : l.length ≤ 1048576) (hF : ∀ b, b < w.heap.size → B ≤ b → F b) (k m : Int) (s : ByteArray) : Wk w F (L + 1) (.agg #[.int .i64 k, .int .i64 m, .string s, .slice A l.length c]) := by
  obtain ⟨G, vs, hV, hW, hG, hR⟩ := h
  refine ⟨k, m, s, A, l.length, c, rfl, hl, fun i hi => ?_⟩
  obtain ⟨x, hx, ht, hj⟩ := hV.at_ (List.getElem?_eq_getElem hi)
  obtain ⟨g, cap, he, _, hlt⟩ := hR.form (by omega)
  have hA : A = some ⟨g, 0, none⟩ := by injection he
  subst hA
  have hcell := hR.cells (g := g) rfl
  obtain ⟨A', c', rfl, ok, hl'⟩ := ht.inv
  have q0 := hcell (i * 4 + 0) _ ((hj 0 (by omega)).trans rfl)
  have q1 := hcell (i * 4 + 1) _ ((hj 1 (by omega)).trans rfl)
  have q2 := hcell (i * 4 + 2) _ ((hj 2 (by omega)).trans rfl)
  have q3 := hcell (i * 4 + 3) _ ((hj 3 (by omega)).trans rfl)
  simp only [add_plain', Nat.zero_add, Nat.add_zero] at q0 q1 q2 q3
  exact ⟨g, _, _, _, _, rfl, hF g hlt (hR.lt g rfl).1, ⟨q0, q1, q2, q3⟩, ⟨hR.frozenAt _, hR.frozenAt _, hR.frozenAt _, hR.frozenAt _⟩, (hW _ (List.mem_of_getElem? hx)).mono (fun b hb => hF b (hG b hb).1 (hG b hb).2.1)⟩
end

/-! ### CopyTerm -/
/-- A term told that is the same, all of it new, its inner terms in rows that may be written. -/
def CopiedW (w : World) (t : Tm) (e : Ending) (w' : World) : Prop := ∃ v', e = .returned v' ∧ TAt w' (Fr w w') t v' ∧ Below w.heap.size w w' ∧ Wk w' (Fr w w') (nodes t + 1) v'
def CopiedWL (w : World) (l : List Tm) (e : Ending) (w' : World) : Prop := ∃ A c, e = .returned (.slice A l.length c) ∧ WRow w' w.heap.size (nodesL l + 1) (.slice A l.length c) l ∧ Below w.heap.size w w'
def CopyWC (t : Tm) : Prop := nodes t ≤ 1048576 → ∀ (v : Value) (w : World), TA w t v → Calls Try.prog 10 #[v] w (CopiedW w t)
def CpWRel (w : World) (L : Nat) (l : List Tm) (v i : Value) (wr : World) : Prop :=
  ∃ k : Nat, k ≤ l.length ∧ i = .int .i64 (k : Int) ∧ WRow wr w.heap.size L v (l.take k) ∧ Below w.heap.size w wr
set_option maxRecDepth 100000 in
set_option maxHeartbeats 4000000 in
theorem copyTermsW_of (l : List Tm) (A : Option Addr) (c : Nat) (w : World) (h : TsA w A l) (hn : nodesL l ≤ 1048576) (ih : ∀ u ∈ l, CopyWC u) :
    Calls Try.prog 39 #[.slice A l.length c] w (CopiedWL w l) := by
  have hlen : l.length ≤ 1048576 := Nat.le_trans (nodesL_len l) hn
  have HR := Lib.hid (Below.refl w.heap.size w)
  obtain ⟨i0, hi, hz0, hz1, hz2⟩ := info_parts infoT
  obtain ⟨L, hL⟩ : ∃ L, nodesL l + 1 = L := ⟨_, rfl⟩
  have HLL := Lib.hid hL
  clear hL
  go_enter Try.func39, Try.ntmps39
  go_wp2_with fail
  go_loopw [3, 4] (fun v i wr => CpWRel w L l v i wr) (fun _ i _ => l.length - (intOf i).toNat)
  case atStart => exact ⟨0, Nat.zero_le _, rfl, by simpa using WRow.none_ _ _ _, HR.out⟩
  case round =>
    obtain ⟨k, hk, rfl, hT, hb⟩ := hrel
    obtain ⟨A3, c3, rfl, _, _, _⟩ := hT.form
    have hlk : (l.take k).length = k := by rw [List.length_take]; omega
    rw [hlk] at hT ⊢
    have HB := Lib.hid hb
    clear hb
    by_cases hlt : k < l.length
    · obtain ⟨u, hu⟩ : ∃ u, l[k]? = some u := ⟨_, List.getElem?_eq_getElem hlt⟩
      obtain ⟨b, o, A1, c1, rfl, hb1, d0, d1, d2, d3, hta, _⟩ := (h.later HB.out).at_ hu
      have hm := List.mem_of_getElem? hu
      have hun := nodesL_mem hm
      have HUN := Lib.hid (show nodes u + 1 ≤ L from by have := HLL.out; omega)
      have HC := Lib.hid (ih u hm (Nat.le_trans hun hn) _ _ hta)
      have HU := Lib.hid hu
      obtain ⟨G, vs, hV, hW, hG, hRw⟩ := hT
      rw [hlk] at hRw
      have HV := Lib.hid hV; have HG := Lib.hid hG; have HRw := Lib.hid hRw; have HW := Lib.hid hW
      have b1 : k + 1 ≤ maxLen := by unfold maxLen; omega
      have b2 : (k + 1) * 56 ≤ 140737488355328 := by omega
      clear hta h ih hu hm hV hG hRw hW hun
      have HK := Lib.hid hlk
      clear hlk
      go_wp2_with (first
        | (go_at_call 10; refine HC.out.mono ?_; rintro e w2 ⟨v2, rfl, hx, hb2, hxw⟩
           obtain ⟨A4, c4, rfl, ok4, hl4⟩ := hx.inv
           have HX := Lib.hid hx
           have HXW := Lib.hid hxw
           have HB2 := Lib.hid hb2
           have HR2 := Lib.hid (ownsRow_below HRw.out hb2 (fun r hr => (HRw.out.lt r hr).2))
           have b3 : w.heap.size ≤ (w2.alloc (.cells #[.int .i64 u.k, .int .i64 u.n, .string u.s, .slice A4 u.l.length c4] 24)).heap.size := by have := hb2.size; have := HB.out.size; simp; omega
           unfold tv
           clear hx hb2 ok4 hl4 hxw)
        | (at_builtin; refine wpList_append_own_at _ rfl _ _ 22 rfl w.heap.size 24 i0 _ 4 56 Try.underlying22 hi hz0 hz1 hz2 rfl (by decide) (.slice A3 k c3) k _ rfl (HR2.out.alloc _) ⟨w2.heap.size, 0, none⟩ 1 1 [.int .i64 u.k, .int .i64 u.n, .string u.s, .slice A4 u.l.length c4] rfl rfl (cells4_new _ _ _ _ _ _) (one4 _ _ _ _ _ _) b1 b2 b3 ?_; intro v3 w3 hR3 hg3 _ hat3)
        | fail)
      refine ⟨⟨k + 1, by omega, by go_num, ?_, (bnext HB.out HB2.out).trans (((Below.refl w.heap.size w2).alloc (by have := hb_size HB.out HB2.out; omega) _).grown hg3 (by have := hb_size HB.out HB2.out; simp; omega) (fun r hr => (HR2.out.lt r hr).1))⟩, by simp [intOf]; omega⟩
      rw [take_snoc_of HU.out]
      refine WRow.snoc (w := w2) (H := Fr wr w2) (HV.out.keep fun p hp => HB2.out.cell (HG.out _ hp).1) (fun y hy => (HW.out y hy).later HB2.out) (fun b hb => ⟨Nat.lt_of_lt_of_le (HG.out b hb).1 HB2.out.size, (HG.out b hb).2⟩) HX.out (HXW.out.up HUN.out) (fun b hb => ⟨hb.2, Nat.le_trans HB.out.size hb.1, fun e => ?_⟩) hg3 (by rw [HK.out]; exact hR3) hat3
      have := (HRw.out.lt b e).2
      exact absurd hb.1 (by omega)
    · obtain rfl : k = l.length := by omega
      rw [List.take_length] at hT
      have HF := Lib.hid (show WRow wr w.heap.size (nodesL l + 1) (.slice A3 l.length c3) l from by rw [HLL.out]; exact hT)
      clear hT h ih
      go_wp2_with fail
      go_ret
      exact ⟨A3, c3, rfl, HF.out, HB.out⟩

set_option maxRecDepth 100000 in
set_option maxHeartbeats 4000000 in
theorem copyTermW_any : ∀ t : Tm, CopyWC t := by
  refine Tm.ind fun t ih hn v w h => ?_
  obtain ⟨k, n, s, l, A, c, rfl, rfl, ok, hl⟩ := h.open_
  simp only [Tm.l_mk] at ih
  have hlen : l.length ≤ 1048576 := by have := nodesL_len l; rw [nodes_mk] at hn; omega
  have HR := Lib.hid (ballocs (ballocs (Below.refl w.heap.size w) (.cells #[.int .i64 k, .int .i64 n, .string s, .slice A l.length c] 24)) (.cells #[.int .i64 0, .int .i64 0, .string .empty, .slice none 0 0] 24))
  have HC := Lib.hid (copyTermsW_of l A c _ ((hl.alloc (.cells #[.int .i64 k, .int .i64 n, .string s, .slice A l.length c] 24)).alloc (.cells #[.int .i64 0, .int .i64 0, .string .empty, .slice none 0 0] 24)) (by rw [nodes_mk] at hn; omega) ih)
  have HO := Lib.hid ok
  clear ih hn h hl ok
  go_enter Try.func10, Try.ntmps10
  go_wp2_with (first
    | (go_at_call 39; refine HC.out.mono ?_; rintro e w2 ⟨A4, c4, rfl, hwr, hb2⟩
       have HWR := Lib.hid hwr
       have HB2 := Lib.hid hb2
       have g0 := ((Blk.new w 24 #[.int .i64 k, .int .i64 n, .string s, .slice A l.length c]).alloc (.cells #[.int .i64 0, .int .i64 0, .string .empty, .slice none 0 0] 24)).below hb2 (by simp; omega)
       have g1 := (Blk.new (w.alloc (.cells #[.int .i64 k, .int .i64 n, .string s, .slice A l.length c] 24)) 24 #[.int .i64 0, .int .i64 0, .string .empty, .slice none 0 0]).below hb2 (by simp)
       simp only [World.size_alloc] at g1
       obtain ⟨p0, p1, p2, p3, q0, q1, q2, q3⟩ := g0.four
       obtain ⟨r0, r1, r2, r3, s0, s1, s2, s3⟩ := g1.four
       clear hwr hb2 g0 g1)
    | fail)
  refine bodyPost_ret (v := .agg #[.int .i64 k, .int .i64 n, .string s, .slice A4 l.length c4]) (by simp [results, Try.results10, go_sem, r0, r1, r2, r3]) rfl ?_
  obtain ⟨A', c', e', hc1, hc2, hc3, hts⟩ := HWR.out.slAt (F := fun b => w.heap.size + 2 ≤ b ∧ b < w2.heap.size) (fun b h1 h2 => ⟨by simpa using h2, h1⟩)
  injection e' with e1 _ e2
  subst e1 e2
  have hwk := HWR.out.wk hlen (F := fun b => w.heap.size + 2 ≤ b ∧ b < w2.heap.size) (fun b h1 h2 => ⟨by simpa using h2, h1⟩) k n s
  have kk : Keep (fun b => b < w.heap.size + 2) w2 (((((w2.setCell ⟨w.heap.size, 3, none⟩ (.slice A4 l.length c4)).setCell ⟨w.heap.size + 1, 0, none⟩ (.int .i64 k)).setCell ⟨w.heap.size + 1, 1, none⟩ (.int .i64 n)).setCell ⟨w.heap.size + 1, 2, none⟩ (.string s)).setCell ⟨w.heap.size + 1, 3, none⟩ (.slice A4 l.length c4)) :=
    (((((Keep.refl (fun b => b < w.heap.size + 2) w2).setCell (p := ⟨w.heap.size, 3, none⟩) (.inl (by show w.heap.size < w.heap.size + 2; omega)) _).setCell (p := ⟨w.heap.size + 1, 0, none⟩) (.inl (by show w.heap.size + 1 < w.heap.size + 2; omega)) _).setCell (p := ⟨w.heap.size + 1, 1, none⟩) (.inl (by show w.heap.size + 1 < w.heap.size + 2; omega)) _).setCell (p := ⟨w.heap.size + 1, 2, none⟩) (.inl (by show w.heap.size + 1 < w.heap.size + 2; omega)) _).setCell (p := ⟨w.heap.size + 1, 3, none⟩) (.inl (by show w.heap.size + 1 < w.heap.size + 2; omega)) _
  refine ⟨_, rfl, ?_, ?_, ?_⟩
  · have ok := HO.out
    exact TAt.of (t := .mk k n s l) ⟨ok.wk, ok.wn, ok.ws, hc1, hc2, hc3⟩ ((hts.keepF kk (fun b hb => hb.2) (fun b hb h => by have := hb.1; omega)).mono fun b hb => ⟨by omega, by simp [World.setCell]; omega⟩)
  · exact (((((bnext HR.out HB2.out).setCell (p := ⟨w.heap.size, 3, none⟩) (Nat.le_refl _) _).setCell (p := ⟨w.heap.size + 1, 0, none⟩) (Nat.le_succ _) _).setCell (p := ⟨w.heap.size + 1, 1, none⟩) (Nat.le_succ _) _).setCell (p := ⟨w.heap.size + 1, 2, none⟩) (Nat.le_succ _) _).setCell (p := ⟨w.heap.size + 1, 3, none⟩) (Nat.le_succ _) _
  · rw [nodes_mk]
    exact (hwk.keep kk (fun b hb h => by have := hb.1; omega)).mono fun b hb => ⟨by omega, by simp [World.setCell]; omega⟩
end Go.Proofs.Ytlaplakaifmpeaa.K
