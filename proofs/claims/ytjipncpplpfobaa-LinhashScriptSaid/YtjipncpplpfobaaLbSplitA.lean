/- What a round of Split keeps. -/
import Derived.Test.YtjipncpplpfobaaLbSet
import Derived.Test.YtjipncpplpfobaaLbAt
import Derived.Test.YtjipncpplpfobaaLbChain
namespace Go.Proofs.Ytjipncpplpfobaa.Lb
open Go.RowKit K Hs
set_option linter.unusedVariables false
set_option linter.unusedSimpArgs false

theorem own_uniq {w : World} {base : Nat} {e : TypeId} {size n : Nat} {v : Value} {xs ys : List Value} (h : w.ownsRow base e size v n xs) (h' : w.ownsRow base e size v n ys) : xs = ys := by
  have hl := h.1; have hl' := h'.1
  rcases h.2 with ⟨rfl, rfl⟩ | ⟨g, cap, cur, rfl, _, hg, _, _, _, ht⟩
  · simp at hl hl'
    rw [hl, hl']
  · rcases h'.2 with ⟨e1, _⟩ | ⟨g', cap', cur', e1, _, hg', _, _, _, ht'⟩
    · cases e1
    have : g = g' := by injection e1 with e1; injection e1 with e1; injection e1
    subst this
    rw [hg] at hg'
    injection hg' with hg'
    injection hg' with hg'
    rw [← ht, ← ht', hg']
theorem cell_one_new' (w : World) (t : TypeId) (x : Value) : ∀ j u, [x][j]? = some u → (w.alloc (.cells #[x] t)).cell? ((⟨w.heap.size, 0, none⟩ : Addr).add j) = some u := by
  intro j u hj
  have hb := Blk.new w t #[x]
  rcases j with _ | j
  · simp at hj; subst hj; have := hb.cell 0; simp [Addr.add, this]
  · simp at hj
/-- An empty row more: the append's run, told ahead. -/
theorem push_run {w : World} {G : Nat → Prop} {gr cap : Nat} {L : List (List It)} (hR : Rws w G gr cap L) (hl : L.length ≤ 1099511627776) :
    ∃ gr' cap' w1, (Builtin.append_ #[37, 37] 37 #[.slice (some ⟨gr, 0, none⟩) L.length cap, .slice (some ⟨w.heap.size, 0, none⟩) 1 1]).run Try.prog (w.alloc (.cells #[.slice none 0 0] 43)) = .ok (.slice (some ⟨gr', 0, none⟩) (L.length + 1) cap') w1 ∧
      Rws w1 (fun k => G k ∨ (w.heap.size ≤ k ∧ k < w1.heap.size)) gr' cap' (L ++ [[]]) ∧ Keep (fun k => k = gr) w w1 := by
  have hR0 := hR
  obtain ⟨V, h1, _⟩ := hR
  obtain ⟨i0, hi, hz0, hz1, hz2⟩ := info_parts infoII
  obtain ⟨v1, w1, hrun, hown, hg, _, hat⟩ := run_append_own_at (P := Try.prog) (w.alloc (.cells #[.slice none 0 0] 43)) 0 37 37 43 i0 _ 1 24 Try.underlying37 hi hz0 hz1 hz2 rfl (by decide)
    (.slice (some ⟨gr, 0, none⟩) L.length cap) L.length V (h1.alloc _) ⟨w.heap.size, 0, none⟩ 1 1 [.slice none 0 0] rfl (cell_one_new' _ _ _) (by simp [Value.oneCell']) (by unfold maxLen; omega) (by omega) (Nat.zero_le _)
  obtain ⟨g1, c1, rfl⟩ := ownsRow_succ hown
  have hk : Keep (fun k => k = gr) w w1 := ((Keep.refl (fun k => k = gr) w).alloc _).grown hg (fun k hk => .inl (by simpa [Value.ownBlock] using hk.symm))
  refine ⟨g1, c1, w1, hrun, hR0.push (V' := []) (.inr hk) (fun V2 h2 => by rw [own_uniq h2 h1]; exact hown) ?_, hk⟩
  rcases hat with h | h
  · left; simpa [Value.ownBlock] using h
  · right
    have : g1 = w.heap.size + 1 := by simpa [Value.ownBlock] using h
    omega

def SpI (w : World) (G : Nat → Prop) (g least : Nat) (cnt : Int) (gr cap : Nat) (L1 : List (List It)) (m fr : Nat) (A : Option Addr) (c : Nat) (lst : List It) (k : Nat) (A6 : Option Addr) (n6 c6 : Nat) (wr : World) : Prop :=
  ∃ Gk : Nat → Prop, LB wr Gk g least cnt gr cap (L1.set m (goL m (lst.take k))) ∧ (∀ j, Gk j → G j ∨ w.heap.size ≤ j) ∧ Keep G w wr ∧ wr.cell? ⟨gr, fr, none⟩ = some (.slice A lst.length c) ∧
    n6 = (stayL m (lst.take k)).length ∧ wr.ownsRow 0 54 2 (.slice A6 n6 c6) n6 (itL (stayL m (lst.take k))) ∧ ∀ r, (Value.slice A6 n6 c6).ownBlock = some r → ¬ Gk r ∧ w.heap.size ≤ r
theorem go_yes {m : Nat} {l : List It} {k : Nat} {x : It} (hk : l[k]? = some x) (e : bk x.1 (m + 1) = m) : goL m (l.take (k + 1)) = goL m (l.take k) ++ [x] ∧ stayL m (l.take (k + 1)) = stayL m (l.take k) := by
  unfold goL stayL; rw [List.take_add_one, hk, List.filter_append, List.filter_append]; simp [e]
theorem go_no {m : Nat} {l : List It} {k : Nat} {x : It} (hk : l[k]? = some x) (e : bk x.1 (m + 1) ≠ m) : goL m (l.take (k + 1)) = goL m (l.take k) ∧ stayL m (l.take (k + 1)) = stayL m (l.take k) ++ [x] := by
  unfold goL stayL; rw [List.take_add_one, hk, List.filter_append, List.filter_append]; simp [e]
theorem goL_le (m : Nat) (l : List It) (k : Nat) : (goL m (l.take k)).length ≤ l.length ∧ (stayL m (l.take k)).length ≤ l.length := by
  unfold goL stayL
  have h1 := List.length_filter_le (fun x : It => decide (bk x.1 (m + 1) = m)) (l.take k)
  have h2 := List.length_filter_le (fun x : It => decide (bk x.1 (m + 1) ≠ m)) (l.take k)
  rw [List.length_take] at h1 h2
  omega
section
variable {w wr : World} {G : Nat → Prop} {g least gr cap m fr c k n6 c6 : Nat} {cnt : Int} {L1 : List (List It)} {A A6 : Option Addr} {lst : List It}
theorem SpI.start (hB : LB wr (upG G w wr) g least cnt gr cap L1) (hk : Keep G w wr) (hc : wr.cell? ⟨gr, fr, none⟩ = some (.slice A lst.length c)) (hm : L1[m]? = some []) : SpI w G g least cnt gr cap L1 m fr A c lst 0 none 0 0 wr := by
  have e : L1.set m (goL m (lst.take 0)) = L1 := by
    apply List.ext_getElem?
    intro j
    have hlt := (List.getElem?_eq_some_iff.1 hm).1
    by_cases ej : m = j
    · subst ej; rw [List.getElem?_set_self hlt, hm]; simp [goL]
    · rw [List.getElem?_set_ne ej]
  refine ⟨upG G w wr, by rw [e]; exact hB, fun j hj => ?_, hk, hc, by simp [stayL], by simpa [stayL, itL] using World.ownsRow_nil _ _ _ _, fun r hr => by simp [Value.ownBlock] at hr⟩
  rcases hj with h | h
  · exact .inl h
  · exact .inr h.1
/-- The item's own box. -/
theorem SpI.box (h : SpI w G g least cnt gr cap L1 m fr A c lst k A6 n6 c6 wr) (o : Obj) : SpI w G g least cnt gr cap L1 m fr A c lst k A6 n6 c6 (wr.alloc o) := by
  obtain ⟨Gk, hB, hG, hk, hc, hn, h6, h7⟩ := h
  have ha : Keep (fun _ => False) wr (wr.alloc o) := (Keep.refl _ wr).alloc o
  exact ⟨Gk, hB.keep ha (fun _ _ h => h), hG, hk.alloc o, (World.cell?_alloc_lt _ _ _ (World.block_lt_of_cell? _ _ hc)).trans hc, hn, h6.alloc o, h7⟩
theorem SpI.drew (h : SpI w G g least cnt gr cap L1 m fr A c lst k A6 n6 c6 wr) : SpI w G g least cnt gr cap L1 m fr A c lst k A6 n6 c6 wr.drew := by
  obtain ⟨Gk, hB, hG, hk, hc, hn, h6, h7⟩ := h
  exact ⟨Gk, hB.keep (F := fun _ => False) ⟨rfl, rfl, rfl, Nat.le_refl _, fun _ _ _ => rfl⟩ (fun _ _ h => h), hG, hk.drew, hc, hn, h6, h7⟩
/-- What is read. -/
theorem SpI.rd (h : SpI w G g least cnt gr cap L1 m fr A c lst k A6 n6 c6 wr) (hf : L1[fr]? = some lst) (hne : fr ≠ m) : RdI wr wr.heap.size A lst ∧ wr.cell? ⟨g, 2, none⟩ = some (.slice (some ⟨gr, 0, none⟩) L1.length cap) := by
  obtain ⟨Gk, hB, hG, hk, hc, hn, h6, h7⟩ := h
  obtain ⟨A', c', s1, _, s3, _⟩ := hB.2.2.2.spot (i := fr) (l := lst) (by rw [List.getElem?_set_ne (Ne.symm hne)]; exact hf)
  rw [hc] at s1
  injection s1 with s1
  injection s1 with e1 _ e2
  subst e1 e2
  have := hB.cells.2.2.1
  rw [List.length_set] at this
  exact ⟨RdI.of_own s3, this⟩
/-- An item that goes. -/
theorem SpI.go {w0 : World} {x : It} (h : SpI w G g least cnt gr cap L1 m fr A c lst k A6 n6 c6 w0) (hwr : w0.alloc (.cells #[.int .u32 x.1, .int .i64 x.2] 54) = wr) (hne : fr ≠ m) (hm : m < L1.length) (hx : lst[k]? = some x) (e : bk x.1 (m + 1) = m) (hl : lst.length ≤ 1099511627776) :
    ∃ Am nm cm g1 c1 w1, wr.cell? ⟨gr, m, none⟩ = some (.slice Am nm cm) ∧
      (Builtin.append_ #[43, 43] 43 #[.slice Am nm cm, .slice (some ⟨wr.heap.size, 0, none⟩) 1 1]).run Try.prog (wr.drew.alloc (.cells #[.int .u32 x.1, .int .i64 x.2] 54)) = .ok (.slice (some ⟨g1, 0, none⟩) (nm + 1) c1) w1 ∧
      (w1.cell? ⟨g, 2, none⟩ = some (.slice (some ⟨gr, 0, none⟩) L1.length cap) ∧ w1.cell? ⟨gr, m, none⟩ = some (.slice Am nm cm) ∧ w1.frozen? ⟨gr, m, none⟩ = false) ∧
      (w1.setCell ⟨gr, m, none⟩ (.slice (some ⟨g1, 0, none⟩) (nm + 1) c1)).cell? ⟨g, 2, none⟩ = some (.slice (some ⟨gr, 0, none⟩) L1.length cap) ∧
      SpI w G g least cnt gr cap L1 m fr A c lst (k + 1) A6 n6 c6 (w1.setCell ⟨gr, m, none⟩ (.slice (some ⟨g1, 0, none⟩) (nm + 1) c1)) ∧
      (w1.cell? ⟨w0.heap.size, 0, none⟩ = some (.int .u32 x.1) ∧ w1.cell? ⟨w0.heap.size, 1, none⟩ = some (.int .i64 x.2)) ∧ ((w1.setCell ⟨gr, m, none⟩ (.slice (some ⟨g1, 0, none⟩) (nm + 1) c1)).cell? ⟨w0.heap.size, 0, none⟩ = some (.int .u32 x.1) ∧ (w1.setCell ⟨gr, m, none⟩ (.slice (some ⟨g1, 0, none⟩) (nm + 1) c1)).cell? ⟨w0.heap.size, 1, none⟩ = some (.int .i64 x.2)) := by
  have hw0 : ∃ Gk : Nat → Prop, (∀ j, Gk j → j < w0.heap.size) ∧ LB wr Gk g least cnt gr cap (L1.set m (goL m (lst.take k))) ∧ (∀ j, Gk j → G j ∨ w.heap.size ≤ j) ∧ Keep G w wr ∧ wr.cell? ⟨gr, fr, none⟩ = some (.slice A lst.length c) ∧
    n6 = (stayL m (lst.take k)).length ∧ wr.ownsRow 0 54 2 (.slice A6 n6 c6) n6 (itL (stayL m (lst.take k))) ∧ ∀ r, (Value.slice A6 n6 c6).ownBlock = some r → ¬ Gk r ∧ w.heap.size ≤ r := by
    obtain ⟨Gk, hB, hG, hk, hc, hn, h6, h7⟩ := h
    rw [← hwr]
    have ha : Keep (fun _ => False) w0 (w0.alloc (.cells #[.int .u32 x.1, .int .i64 x.2] 54)) := (Keep.refl _ w0).alloc _
    exact ⟨Gk, hB.1, hB.keep ha (fun _ _ h => h), hG, hk.alloc _, (World.cell?_alloc_lt _ _ _ (World.block_lt_of_cell? _ _ hc)).trans hc, hn, h6.alloc _, h7⟩
  have hbx : Blk wr w0.heap.size 54 #[.int .u32 x.1, .int .i64 x.2] := by rw [← hwr]; exact Blk.new _ _ _
  have bx0 : wr.cell? ⟨w0.heap.size, 0, none⟩ = some (.int .u32 x.1) := by rw [hbx.cell]; rfl
  have bx1 : wr.cell? ⟨w0.heap.size, 1, none⟩ = some (.int .i64 x.2) := by rw [hbx.cell]; rfl
  have hbl := hbx.lt
  obtain ⟨Gk, hGl, hB, hG, hk, hc, hn, h6, h7⟩ := hw0
  have hms : (L1.set m (goL m (lst.take k)))[m]? = some (goL m (lst.take k)) := List.getElem?_set_self hm
  obtain ⟨Am, cm, s1, s2, s3, s4, _⟩ := hB.2.2.2.spot hms
  obtain ⟨q0, q1, q2, f0, f1, f2, g1', g2', n1, n2, hneg⟩ := hB.cells
  rw [List.length_set] at q2
  have hlen := (goL_le m lst k).1
  obtain ⟨g1, c1, w1, hrun, hown, hkk, hat, hz, _⟩ := item_run wr wr.drew Am cm (goL m (lst.take k)) x s3 (by omega) ⟨rfl, rfl, rfl, rfl⟩
  have hng : (Value.slice Am (goL m (lst.take k)).length cm).ownBlock ≠ some g := hB.row_ne s3
  have hngr : (Value.slice Am (goL m (lst.take k)).length cm).ownBlock ≠ some gr := fun e => (s4 _ e).2.2 rfl
  have e1 : (goL m (lst.take k) ++ [x]).length = (goL m (lst.take k)).length + 1 := by simp
  have hS := hB.setG hms s1 hkk hown (fun r hr => by
    rcases hat r hr with h | h
    · exact .inl h
    · exact .inr (fun hg => by have := hB.1 r hg; omega))
  obtain ⟨y1, y2⟩ := go_yes hx e
  have hnb : (Value.slice Am (goL m (lst.take k)).length cm).ownBlock ≠ some w0.heap.size := fun h => by have := hGl _ (s4 _ h).1; omega
  have y3 := (hkk.cell (p := ⟨w0.heap.size, 0, none⟩) hbl hnb).trans bx0
  have y4 := (hkk.cell (p := ⟨w0.heap.size, 1, none⟩) hbl hnb).trans bx1
  have y5 : w0.heap.size ≠ gr := fun h => by have := hGl gr hB.2.2.2.outer.2.1; omega
  rw [e1] at hS
  rw [List.set_set, ← y1] at hS
  have hq2 := hS.1.cells.2.2.1
  rw [List.length_set] at hq2
  have hown6 : ∀ r, (Value.slice A6 n6 c6).ownBlock = some r → r < wr.heap.size := fun r hr => (h6.lt r hr).2
  refine ⟨Am, _, cm, g1, c1, w1, s1, hrun, ⟨(hkk.cell (p := ⟨g, 2, none⟩) g1' hng).trans q2, (hkk.cell (p := ⟨gr, m, none⟩) g2' hngr).trans s1, (hkk.frozen (p := ⟨gr, m, none⟩) g2' hngr).trans s2⟩, hq2, ⟨_, hS.1, fun j hj => ?_, ?_, ?_, by rw [y2]; exact hn, ?_, fun r hr => ⟨fun hj => ?_, (h7 r hr).2⟩⟩, ⟨y3, y4⟩, (World.cell?_setCell_other _ _ _ _ (fun e => by injection e with e _; exact y5 e.symm)).trans y3, (World.cell?_setCell_other _ _ _ _ (fun e => by injection e with e _; exact y5 e.symm)).trans y4⟩
  · rcases hj with hj | hj
    · exact hG j hj
    · rw [e1] at hat
      rcases hat j hj with h | h
      · exact hG j (s4 j h).1
      · exact .inr (Nat.le_trans hk.size h)
  · refine hk.trans hS.2 (fun i hi hGi => ?_)
    rcases hG i hGi with h | h
    · exact h
    · omega
  · refine (World.cell?_setCell_other _ _ _ _ (fun e => by injection e with _ e; omega)).trans ?_
    exact (hkk.cell (p := ⟨gr, fr, none⟩) g2' hngr).trans hc
  · rw [y2]
    refine ownsRow_keep (ownsRow_keep h6 hkk (fun r hr h => (h7 r hr).1 (s4 r h).1)) ((Keep.refl (fun k => k = gr) w1).setCell (p := ⟨gr, m, none⟩) (.inl rfl) _) (fun r hr h => ?_)
    subst h
    exact (h7 r hr).1 hB.2.2.2.outer.2.1
  · rcases hj with hj | hj
    · exact (h7 r hr).1 hj
    · rw [e1] at hat
      rcases hat r hj with h | h
      · exact (h7 r hr).1 (s4 r h).1
      · have := hown6 r hr; omega
/-- An item that stays. -/
theorem SpI.stays (h : SpI w G g least cnt gr cap L1 m fr A c lst k A6 n6 c6 wr) {x : It} (hx : lst[k]? = some x) (e : bk x.1 (m + 1) ≠ m) (hl : lst.length ≤ 1099511627776) :
    ∃ g1 c1 w1, (Builtin.append_ #[43, 43] 43 #[.slice A6 n6 c6, .slice (some ⟨wr.heap.size, 0, none⟩) 1 1]).run Try.prog (wr.alloc (.cells #[.int .u32 x.1, .int .i64 x.2] 54)) = .ok (.slice (some ⟨g1, 0, none⟩) (n6 + 1) c1) w1 ∧
      SpI w G g least cnt gr cap L1 m fr A c lst (k + 1) (some ⟨g1, 0, none⟩) (n6 + 1) c1 w1 := by
  obtain ⟨Gk, hB, hG, hk, hc, rfl, h6, h7⟩ := h
  have hlen := (goL_le m lst k).2
  obtain ⟨g1, c1, w1, hrun, hown, hkk, hat, hz, _⟩ := item_run wr wr A6 c6 (stayL m (lst.take k)) x h6 (by omega) ⟨rfl, rfl, rfl, rfl⟩
  obtain ⟨y1, y2⟩ := go_no hx e
  have e1 : (stayL m (lst.take k) ++ [x]).length = (stayL m (lst.take k)).length + 1 := by simp
  have hcl := World.block_lt_of_cell? _ _ hc
  have hgr := hB.2.2.2.outer.2.1
  refine ⟨g1, c1, w1, hrun, Gk, by rw [y1]; exact hB.keep hkk (fun r hr h => (h7 r h).1 hr), hG, ?_, ?_, by rw [y2, e1], by rw [y2]; rw [e1] at hown; exact hown, fun r hr => ?_⟩
  · refine ⟨hkk.os.trans hk.os, hkk.tape.trans hk.tape, hkk.output.trans hk.output, Nat.le_trans hk.size hkk.size, fun i hi hnG => ?_⟩
    exact (hkk.block i (Nat.lt_of_lt_of_le hi hk.size) (fun h => by have := (h7 i h).2; omega)).trans (hk.block i hi hnG)
  · exact (hkk.cell (p := ⟨gr, fr, none⟩) hcl (fun h => (h7 gr h).1 hgr)).trans hc
  · rw [← e1] at hr
    rcases hat r hr with h | h
    · exact h7 r h
    · exact ⟨fun hg => by have := hB.1 r hg; omega, Nat.le_trans hk.size h⟩
/-- The end: the row from which they come is what stays. -/
theorem SpI.end_ (h : SpI w G g least cnt gr cap L1 m fr A c lst lst.length A6 n6 c6 wr) (hf : L1[fr]? = some lst) (hne : fr ≠ m) (hlt : ∀ k, G k → k < w.heap.size) :
    wr.cell? ⟨g, 2, none⟩ = some (.slice (some ⟨gr, 0, none⟩) L1.length cap) ∧ wr.cell? ⟨gr, fr, none⟩ = some (.slice A lst.length c) ∧ wr.frozen? ⟨gr, fr, none⟩ = false ∧
    LB (wr.setCell ⟨gr, fr, none⟩ (.slice A6 n6 c6)) (upG G w (wr.setCell ⟨gr, fr, none⟩ (.slice A6 n6 c6))) g least cnt gr cap ((L1.set m (goL m lst)).set fr (stayL m lst)) ∧ Keep G w (wr.setCell ⟨gr, fr, none⟩ (.slice A6 n6 c6)) := by
  have hrd := (h.rd hf hne).2
  obtain ⟨Gk, hB, hG, hk, hc, rfl, h6, h7⟩ := h
  rw [List.take_length] at hB h6 h7 ⊢
  have hfs : (L1.set m (goL m lst))[fr]? = some lst := by rw [List.getElem?_set_ne (Ne.symm hne)]; exact hf
  obtain ⟨A', c', s1, s2, s3, s4, _⟩ := hB.2.2.2.spot hfs
  have hS := hB.setG hfs hc (Keep.refl _ _) h6 (fun r hr => .inr (h7 r hr).1)
  have hz : (wr.setCell ⟨gr, fr, none⟩ (.slice A6 (stayL m lst).length c6)).heap.size = wr.heap.size := by simp [World.setCell]
  refine ⟨hrd, hc, s2, hS.1.mono (fun j hj => ?_) (fun j hj => ?_), ?_⟩
  · have hjl := hS.1.1 j hj
    rcases hj with hj | hj
    · rcases hG j hj with h | h
      · exact .inl h
      · exact .inr ⟨h, hjl⟩
    · exact .inr ⟨(h7 j hj).2, hjl⟩
  · rw [hz]
    rcases hj with hj | hj
    · exact Nat.lt_of_lt_of_le (hlt j hj) hk.size
    · rw [← hz]; exact hj.2
  · exact hk.trans hS.2 (fun i hi hGi => by
      rcases hG i hGi with h | h
      · exact h
      · omega)
end
end Go.Proofs.Ytjipncpplpfobaa.Lb
