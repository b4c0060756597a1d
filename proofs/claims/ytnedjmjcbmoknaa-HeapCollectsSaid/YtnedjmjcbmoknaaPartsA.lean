/- What term.parts needs: its stack, in plain terms. -/
import Derived.Test.YtnedjmjcbmoknaaBackward
import Derived.Deep.LoopGhost
import Derived.Shelf.RegionOpen
namespace Go.Proofs.Ytnedjmjcbmoknaa.K
open Go.RowKit Go.Shelf
set_option linter.unusedVariables false
set_option linter.unusedSimpArgs false
attribute [local go_sem] Oper.semAt_some

/-- What is told: a term, and its value. -/
def ptEnc (x : Tm × TV) : Array Value := #[x.2.val]
/-- The iterator's stack, in box Bl: just these terms, which lie in blocks below n0. -/
def Stk (wr : World) (n0 B Bl : Nat) (L : List Tm) : Prop :=
  ∃ v vs, Boxed wr Bl 26 v ∧ TsVs wr (· < n0) L vs ∧ wr.ownsRow B 28 4 v L.length (flat vs) ∧ B ≤ Bl
/-- Behind a round: pre has been told; L is on the stack. -/
def PtInv (W : World) (n0 B : Nat) (t : Tm) (J : List (Tm × TV) → World → Prop) (gk : Nat) (Ds : List Nat) (L : List Tm) (pre : List (Tm × TV)) (wr : World) : Prop :=
  nodesL L ≤ gk ∧ Ds.Nodup ∧ (∀ D, D ∈ Ds → B ≤ D ∧ wr.heap[D]? = some (.deferred (some []))) ∧ J pre wr ∧ pre.map (·.1) ++ subsL L.reverse = subs t ∧ Stk wr n0 B (W.heap.size + 1) L ∧ Below n0 W wr
/-- Within a round of parts, behind some of the inner loop's rounds. -/
def InI (W4 : World) (B Bl g n : Nat) (vs : List Value) (pre : List (Nat × { x : TV // True })) (Wx : World) : Prop :=
  (∃ v, Boxed Wx Bl 26 v ∧ Wx.ownsRow B 28 4 v (n + pre.length) (flat (vs ++ pre.map (·.2.1.val))) ∧ ∀ r, v.ownBlock = some r → r = g ∨ W4.heap.size ≤ r) ∧ Keep (fun k => k = Bl ∨ k = g) W4 Wx
theorem InI_own (W4 : World) (B Bl g n : Nat) (vs : List Value) : OwnFrom W4.heap.size (InI W4 B Bl g n vs) := by
  intro s X Y row ⟨⟨v, h1, h2, h4⟩, h3⟩ hg hr
  obtain ⟨v', g1, g2, g4⟩ := holdsRow_own (β := Unit) B Bl 26 28 4 (fun _ => n + s.length) (fun _ => flat (vs ++ s.map (·.2.1.val))) (fun _ v => ∀ r, v.ownBlock = some r → r = g ∨ W4.heap.size ≤ r) () X Y row ⟨v, h1, h2, h4⟩ hg (fun r e => (hr r e).2)
  exact ⟨⟨v', g1, g2, g4⟩, h3.grown hg (fun k e => .inr (hr k e).1)⟩
/-- A whole term stored into a row, from cell j on. -/
def put4at (w : World) (g j : Nat) (y0 y1 y2 y3 : Value) : World := (((w.setCell ⟨g, j, none⟩ y0).setCell ⟨g, j + 1, none⟩ y1).setCell ⟨g, j + 2, none⟩ y2).setCell ⟨g, j + 3, none⟩ y3
theorem put4at_row {w : World} {base : Nat} {e : TypeId} {g n cap j : Nat} {xs : List Value} {z0 z1 z2 z3 y0 y1 y2 y3 : Value} (h : w.ownsRow base e 4 (.slice (some ⟨g, 0, none⟩) n cap) n (xs ++ [z0, z1, z2, z3])) (hj : xs.length = j) :
    (put4at w g j y0 y1 y2 y3).ownsRow base e 4 (.slice (some ⟨g, 0, none⟩) n cap) n (xs ++ [y0, y1, y2, y3]) := by
  have h4 := (((((h.stored j y0).1.stored (j + 1) y1).1.stored (j + 2) y2).1).stored (j + 3) y3).1
  have e4 : ((((xs ++ [z0, z1, z2, z3]).set j y0).set (j + 1) y1).set (j + 2) y2).set (j + 3) y3 = xs ++ [y0, y1, y2, y3] := by
    subst hj
    simp [List.set_append]
  rw [e4] at h4
  exact h4
theorem put4at_keep {F : Nat → Prop} {w0 w : World} (h : Keep F w0 w) {g : Nat} (hg : F g ∨ w0.heap.size ≤ g) (j : Nat) (y0 y1 y2 y3 : Value) : Keep F w0 (put4at w g j y0 y1 y2 y3) :=
  (((h.setCell (p := ⟨g, j, none⟩) hg _).setCell (p := ⟨g, j + 1, none⟩) hg _).setCell (p := ⟨g, j + 2, none⟩) hg _).setCell (p := ⟨g, j + 3, none⟩) hg _
theorem put4at_blk {w : World} {g g' j : Nat} {t : TypeId} {cs : Array Value} (h : Blk w g t cs) (hn : g ≠ g') (y0 y1 y2 y3 : Value) : Blk (put4at w g' j y0 y1 y2 y3) g t cs := (((h.far hn y0).far hn y1).far hn y2).far hn y3
/-- Behind one round of the inner loop: the element stands on the stack. -/
structure Pushed (Wx : World) (B Bl : Nat) (v v' : Value) (N : Nat) (xs ys : List Value) (E : World) : Prop where
  box : Boxed E Bl 26 v'
  row : E.ownsRow B 28 4 v' (N + 1) (xs ++ ys)
  keep : Keep (fun k => k = Bl ∨ v.ownBlock = some k) Wx E
theorem pushed_of {Wx w6 : World} {B Bl N c6 g6 : Nat} {v : Value} {xs : List Value} {o : Obj} {z0 z1 z2 z3 y0 y1 y2 y3 : Value} (hv : Boxed Wx Bl 26 v) (hrow : Wx.ownsRow B 28 4 v N xs)
    (hg : (Wx.alloc o).grownBy w6 v.ownBlock) (hR : w6.ownsRow B 28 4 (.slice (some ⟨g6, 0, none⟩) (N + 1) c6) (N + 1) (xs ++ [z0, z1, z2, z3])) (hat : (Value.slice (some ⟨g6, 0, none⟩) (N + 1) c6).ownBlock = v.ownBlock ∨ (Value.slice (some ⟨g6, 0, none⟩) (N + 1) c6).ownBlock = some (Wx.heap.size + 1)) :
    Pushed Wx B Bl v (.slice (some ⟨g6, 0, none⟩) (N + 1) c6) N xs [y0, y1, y2, y3] ((put4at w6 g6 (N * 4) y0 y1 y2 y3).setCell ⟨Bl, 0, none⟩ (.slice (some ⟨g6, 0, none⟩) (N + 1) c6)) ∧
    Pushed Wx B Bl v (.slice (some ⟨g6, 0, none⟩) (N + 1) c6) N xs [y0, y1, y2, y3] (put4at (w6.setCell ⟨Bl, 0, none⟩ (.slice (some ⟨g6, 0, none⟩) (N + 1) c6)) g6 (N * 4) y0 y1 y2 y3) := by
  have hl : xs.length = N * 4 := hrow.1
  have hb6 : Boxed w6 Bl 26 v := (hv.alloc o).kept hg (hv.not_row (by decide) hrow)
  have hne : Bl ≠ g6 := fun e => hb6.not_row (by decide) hR (by rw [e]; rfl)
  have hk : Keep (fun k => k = Bl ∨ v.ownBlock = some k) Wx w6 := ((Keep.refl _ Wx).alloc o).grown hg (fun k e => .inl (.inr e))
  have hg6 : (g6 = Bl ∨ v.ownBlock = some g6) ∨ Wx.heap.size ≤ g6 := by
    rcases hat with h | h
    · exact .inl (.inr (by rw [← h]; rfl))
    · injection h with h
      right
      have : g6 = Wx.heap.size + 1 := h
      omega
  refine ⟨⟨?_, ?_, ?_⟩, ⟨?_, ?_, ?_⟩⟩
  · exact Boxed.set _ (put4at_blk (cs := #[v]) hb6 hne _ _ _ _)
  · exact ownsRow_setCell_other (put4at_row hR hl) (a := ⟨Bl, 0, none⟩) (fun e => hne (by injection e with e; exact e.symm)) _
  · exact (put4at_keep hk hg6 _ _ _ _ _).setCell (p := ⟨Bl, 0, none⟩) (.inl (.inl rfl)) _
  · exact put4at_blk (cs := #[_]) (Boxed.set _ hb6) hne _ _ _ _
  · exact put4at_row (ownsRow_setCell_other hR (a := ⟨Bl, 0, none⟩) (fun e => hne (by injection e with e; exact e.symm)) _) hl
  · exact put4at_keep (hk.setCell (p := ⟨Bl, 0, none⟩) (.inl (.inl rfl)) _) hg6 _ _ _ _ _
theorem InI_step {W4 Wx E : World} {B Bl Bs n0 g n N : Nat} {vs : List Value} {pre : List (Nat × { x : TV // True })} {y : Nat × { x : TV // True }} {v v' : Value} (hI : InI W4 B Bl g n vs pre Wx) (hv : Boxed Wx Bl 26 v) (hrow : Wx.ownsRow B 28 4 v N (flat (vs ++ pre.map (·.2.1.val)))) (hN : n + pre.length = N)
    (hown : ∀ r, v.ownBlock = some r → r = g ∨ W4.heap.size ≤ r) (hown' : v'.ownBlock = v.ownBlock ∨ v'.ownBlock = some (Wx.heap.size + 1))
    (hE : Pushed Wx B Bl v v' N (flat (vs ++ pre.map (·.2.1.val))) [.int .i64 y.2.1.k, .int .i64 y.2.1.n, .string y.2.1.s, .slice y.2.1.A y.2.1.m y.2.1.c] E)
    (hB : n0 ≤ B) (hBl : B ≤ Bl) (hg : B ≤ g) (hBs : Bs < W4.heap.size) (hs1 : Bs ≠ Bl) (hs2 : Bs ≠ g) (hn0 : n0 ≤ W4.heap.size) :
    KeepsFrom W4.heap.size Wx E ∧ KQ (fun k => k < n0 ∨ k = Bs) Wx E ∧ InI W4 B Bl g n vs (pre ++ [y]) E := by
  have hz := hI.2.size
  refine ⟨⟨hE.keep.size, fun k o hk ho hc => ?_⟩, KQ.of_keep hE.keep (fun k hk => ?_), ⟨v', hE.box, ?_, fun r hr => ?_⟩, hI.2.trans hE.keep (fun i hi hf => ?_)⟩
  · have hlt := (Array.getElem?_eq_some_iff.1 ho).1
    refine (hE.keep.block k hlt (fun hf => ?_)).trans ho
    rcases hf with rfl | hf
    · rw [show Wx.heap[_]? = _ from hv] at ho; cases ho; cases hc
    · rcases hrow.2 with ⟨rfl, _⟩ | ⟨g', cap, cur, rfl, _, hh, _⟩
      · cases hf
      · injection hf with hf
        have : g' = k := hf
        subst this
        rw [hh] at ho; cases ho; cases hc
  · rintro (rfl | hf)
    · rcases hk with h | h
      · omega
      · exact hs1 h.symm
    · rcases hown _ hf with h | h
      · rcases hk with h' | h'
        · omega
        · exact hs2 (h'.symm.trans h)
      · rcases hk with h' | h' <;> omega
  · rw [List.map_append, ← List.append_assoc, flat_append, List.length_append, ← Nat.add_assoc, hN]
    exact hE.row
  · rcases hown' with h | h
    · exact hown r (by rw [← h]; exact hr)
    · rw [h] at hr
      injection hr with hr
      right; omega
  · rcases hf with h | h
    · exact .inl h
    · rcases hown _ h with h' | h'
      · exact .inr h'
      · omega

/-- In the middle of a round of parts: L' is on the stack, x's own parts lie from A on. -/
structure Mid (n0 B Bl g c : Nat) (Ds : List Nat) (L' : List Tm) (x : Tm) (A : Option Addr) (vs : List Value) (w : World) : Prop where
  box : Boxed w Bl 26 (.slice (some ⟨g, 0, none⟩) L'.length c)
  row : w.ownsRow B 28 4 (.slice (some ⟨g, 0, none⟩) L'.length c) L'.length (flat vs)
  old : TsVs w (· < n0) L' vs
  kids : TsAt w (· < n0) A x.l
  mrk : ∀ D, D ∈ Ds → B ≤ D ∧ w.heap[D]? = some (.deferred (some []))
theorem Mid.keep {n0 B Bl g c : Nat} {Ds : List Nat} {L' : List Tm} {x : Tm} {A : Option Addr} {vs : List Value} {w w' : World} {F : Nat → Prop} (h : Mid n0 B Bl g c Ds L' x A vs w) (hBl : B ≤ Bl) (hg : B ≤ g) (hn : n0 ≤ w.heap.size) (hk : Keep F w w') (h1 : ∀ k, k < n0 → ¬ F k) (h2 : ∀ k, B ≤ k → ¬ F k) : Mid n0 B Bl g c Ds L' x A vs w' :=
  ⟨Blk.keep (cs := #[_]) h.box hk (h2 _ hBl), ownsRow_keep h.row hk (fun r hr => h2 r (by injection hr with hr; rw [← hr]; exact hg)), h.old.keep fun p hp => hk.cell (Nat.lt_of_lt_of_le hp hn) (h1 _ hp), h.kids.keep fun p hp => hk.cell (Nat.lt_of_lt_of_le hp hn) (h1 _ hp),
    fun D hD => ⟨(h.mrk D hD).1, (hk.block D (Array.getElem?_eq_some_iff.1 (h.mrk D hD).2).1 (h2 D (h.mrk D hD).1)).trans (h.mrk D hD).2⟩⟩
theorem mid_start {n0 B Bl g c : Nat} {Ds : List Nat} {L' : List Tm} {x : Tm} {A : Option Addr} {vs : List Value} {wr : World} {o : Obj} (hbx : Boxed wr Bl 26 (.slice (some ⟨g, 0, none⟩) (L'.length + 1) c)) (hvs : TsVs wr (· < n0) (L' ++ [x]) vs)
    (hrow : wr.ownsRow B 28 4 (.slice (some ⟨g, 0, none⟩) (L'.length + 1) c) (L'.length + 1) (flat vs)) (hkids : TsAt wr (· < n0) A x.l) (hmk : ∀ D, D ∈ Ds → B ≤ D ∧ wr.heap[D]? = some (.deferred (some []))) (hn : n0 ≤ wr.heap.size) (hBl : n0 ≤ Bl) :
    Mid n0 B Bl g c Ds L' x A (vs.take L'.length) ((wr.alloc o).setCell ⟨Bl, 0, none⟩ (.slice (some ⟨g, 0, none⟩) L'.length c)) := by
  have hne : g ≠ Bl := fun e => hbx.not_row (by decide) hrow (by rw [← e]; rfl)
  have ht := hvs.take L'.length
  rw [List.take_left] at ht
  have hfl := hvs.flat_take L'.length
  have hr := ownsRow_less hrow
  rw [← hfl] at hr
  have hk : Keep (fun k => k = Bl) wr ((wr.alloc o).setCell ⟨Bl, 0, none⟩ (.slice (some ⟨g, 0, none⟩) L'.length c)) := ((Keep.refl (fun k => k = Bl) wr).alloc o).setCell (p := ⟨Bl, 0, none⟩) (.inl rfl) _
  refine ⟨Boxed.set _ (hbx.alloc o), ownsRow_keep hr hk (fun r hr => by injection hr with hr; rw [← hr]; exact hne), ht.keep fun p hp => hk.cell (Nat.lt_of_lt_of_le hp hn) (by have : p.block < n0 := hp; omega), hkids.keep fun p hp => hk.cell (Nat.lt_of_lt_of_le hp hn) (by have : p.block < n0 := hp; omega), fun D hD => ⟨(hmk D hD).1, (hk.block D (Array.getElem?_eq_some_iff.1 (hmk D hD).2).1 (fun e => ?_)).trans (hmk D hD).2⟩⟩
  have h1 := (hmk D hD).2
  rw [e, show wr.heap[Bl]? = _ from hbx] at h1
  cases h1
theorem subs_pop (L' : List Tm) (x : Tm) : subsL (L' ++ [x]).reverse = x :: subsL (L' ++ x.l.reverse).reverse := by
  rw [List.reverse_append, List.reverse_append, List.reverse_reverse]
  show subsL (x :: L'.reverse) = _
  rw [subsL_cons, subs_eq, subsL_append]
  rfl
theorem nodes_pop (L' : List Tm) (x : Tm) : nodesL (L' ++ x.l.reverse) + 1 = nodesL (L' ++ [x]) := by
  rw [nodesL_append, nodesL_append, nodesL_reverse, nodesL_cons, nodesL_nil, nodes_eq x]
  omega
/-- Behind a round: the next one's. -/
theorem pt_next {W wr W3 W4 Wd : World} {n0 B g c gk D : Nat} {t x : Tm} {A : Option Addr} {J : List (Tm × TV) → World → Prop} {Ds : List Nat} {L' : List Tm} {pre : List (Tm × TV)} {xv : TV} {vs : List Value} {cvs : List { x : TV // True }}
    (hI : PtInv W n0 B t J gk Ds (L' ++ [x]) pre wr) (hJ : ∀ s X Y, J s X → Below B X Y → J s Y) (hM : Mid n0 B (W.heap.size + 1) g c Ds L' x A vs W4) (hcv : TsVs W4 (· < n0) x.l (cvs.map (·.1.val))) (hJ3 : J (pre ++ [(x, xv)]) W3) (hb34 : Below W3.heap.size W3 W4) (hb04 : Below n0 W W4) (hB : n0 ≤ B) (hBW : B ≤ W.heap.size) (hg : B ≤ g) (hz : wr.heap.size ≤ W3.heap.size)
    (hD : W4.heap.size ≤ D) (hIn : InI W4 B (W.heap.size + 1) g L'.length vs (bk cvs cvs.length) Wd) (hdf : Wd.heap[D]? = some (.deferred (some []))) :
    nodesL (L' ++ x.l.reverse) < gk ∧ PtInv W n0 B t J (nodesL (L' ++ x.l.reverse)) (D :: Ds) (L' ++ x.l.reverse) (pre ++ [(x, xv)]) Wd := by
  obtain ⟨hgk, hD1, hD2, _, hpre, _, hbw⟩ := hI
  have hp := nodes_pop L' x
  obtain ⟨⟨v, hv, hrow, ho⟩, hk⟩ := hIn
  have hkB : Below B W4 Wd := hk.to_below (by have := hbw.size; have := hb34.size; omega) (fun i _ hi => by rcases hi with h | h <;> omega)
  have hcl : cvs.length = x.l.length := by have := hcv.len; simpa using this
  refine ⟨by omega, Nat.le_refl _, List.nodup_cons.2 ⟨fun hm => ?_, hD1⟩, fun D' hD' => ?_, ?_, ?_, ⟨v, vs ++ (cvs.map (·.1.val)).reverse, hv, ?_, ?_, by omega⟩, ?_⟩
  · have := (Array.getElem?_eq_some_iff.1 (hM.mrk D hm).2).1
    omega
  · rcases List.mem_cons.1 hD' with rfl | h
    · exact ⟨by have := hbw.size; have := hb34.size; omega, hdf⟩
    · have h1 := hM.mrk D' h
      refine ⟨h1.1, (hk.block D' (Array.getElem?_eq_some_iff.1 h1.2).1 (fun e => ?_)).trans h1.2⟩
      rcases e with e | e
      · have h2 := h1.2
        rw [e, show W4.heap[_]? = _ from hM.box] at h2
        cases h2
      · have h2 := h1.2
        rcases hM.row.2 with ⟨h', _⟩ | ⟨g', cap, cur, h', _, hh, _⟩
        · simp at h'
        · simp only [Value.slice.injEq, Option.some.injEq, Addr.mk.injEq, and_true, true_and] at h'
          rw [e, h'.1, hh] at h2
          cases h2
  · exact hJ _ _ _ hJ3 ((hb34.mono (by have := hbw.size; omega)).trans hkB)
  · rw [List.map_append, List.append_assoc]
    show pre.map (·.1) ++ (x :: subsL (L' ++ x.l.reverse).reverse) = _
    rw [← subs_pop]
    exact hpre
  · refine TsVs.append (hM.old.keep fun p hp => hkB.cell (Nat.lt_of_lt_of_le hp hB)) ((hcv.keep fun p hp => hkB.cell (Nat.lt_of_lt_of_le hp hB)).reverse)
  · have hm : (bk cvs cvs.length).map (·.2.1.val) = (cvs.map (·.1.val)).reverse := by
      rw [← List.map_reverse, ← bk_whole cvs, List.map_map]
      rfl
    have hl : (L' ++ x.l.reverse).length = L'.length + (bk cvs cvs.length).length := by rw [bk_length cvs _ (Nat.le_refl _), List.length_append, List.length_reverse, hcl]
    rw [hl, ← hm]
    exact hrow
  · exact hb04.trans (hkB.mono hB)
end Go.Proofs.Ytnedjmjcbmoknaa.K
