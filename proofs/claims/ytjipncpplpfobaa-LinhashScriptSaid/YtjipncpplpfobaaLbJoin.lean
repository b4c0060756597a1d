/- linhash: Join, by its contract. -/
import Derived.Test.YtjipncpplpfobaaLbSplitA
namespace Go.Proofs.Ytjipncpplpfobaa.Lb
open Go.RowKit K Hs
set_option linter.unusedVariables false
set_option linter.unusedSimpArgs false

section
variable {w wr w0 : World} {G Gk : Nat → Prop} {g least gr cap c : Nat} {cnt : Int} {L Lk : List (List It)} {A : Option Addr} {lst l : List It}
theorem addL_at {L : List (List It)} {n : Nat} {l : List It} {x : It} (h : L[n]? = some l) : addL L n x = L.set n (l ++ [x]) := by
  unfold addL; rw [List.getD_eq_getElem?_getD, h]; rfl
/-- An item, in a box of its own, is put into a bucket. -/
theorem LB.put {n : Nat} {x : It} (hGl : ∀ j, Gk j → j < w0.heap.size) (hwr : w0.alloc (.cells #[.int .u32 x.1, .int .i64 x.2] 54) = wr) (hB : LB wr Gk g least cnt gr cap Lk) (hn : Lk[n]? = some l) (hl : l.length ≤ 1099511627776) :
    ∃ Am nm cm g1 c1 w1, wr.cell? ⟨gr, n, none⟩ = some (.slice Am nm cm) ∧
      (Builtin.append_ #[43, 43] 43 #[.slice Am nm cm, .slice (some ⟨wr.heap.size, 0, none⟩) 1 1]).run Try.prog (wr.drew.alloc (.cells #[.int .u32 x.1, .int .i64 x.2] 54)) = .ok (.slice (some ⟨g1, 0, none⟩) (nm + 1) c1) w1 ∧
      (w1.cell? ⟨g, 2, none⟩ = some (.slice (some ⟨gr, 0, none⟩) Lk.length cap) ∧ w1.cell? ⟨gr, n, none⟩ = some (.slice Am nm cm) ∧ w1.frozen? ⟨gr, n, none⟩ = false) ∧
      (w1.setCell ⟨gr, n, none⟩ (.slice (some ⟨g1, 0, none⟩) (nm + 1) c1)).cell? ⟨g, 2, none⟩ = some (.slice (some ⟨gr, 0, none⟩) Lk.length cap) ∧
      (∃ Gn, LB (w1.setCell ⟨gr, n, none⟩ (.slice (some ⟨g1, 0, none⟩) (nm + 1) c1)) Gn g least cnt gr cap (addL Lk n x) ∧ (∀ j, Gn j → Gk j ∨ wr.heap.size ≤ j) ∧ Keep Gk wr (w1.setCell ⟨gr, n, none⟩ (.slice (some ⟨g1, 0, none⟩) (nm + 1) c1))) ∧
      (w1.cell? ⟨w0.heap.size, 0, none⟩ = some (.int .u32 x.1) ∧ w1.cell? ⟨w0.heap.size, 1, none⟩ = some (.int .i64 x.2)) ∧ ((w1.setCell ⟨gr, n, none⟩ (.slice (some ⟨g1, 0, none⟩) (nm + 1) c1)).cell? ⟨w0.heap.size, 0, none⟩ = some (.int .u32 x.1) ∧ (w1.setCell ⟨gr, n, none⟩ (.slice (some ⟨g1, 0, none⟩) (nm + 1) c1)).cell? ⟨w0.heap.size, 1, none⟩ = some (.int .i64 x.2)) := by
  have hbx : Blk wr w0.heap.size 54 #[.int .u32 x.1, .int .i64 x.2] := by rw [← hwr]; exact Blk.new _ _ _
  have bx0 : wr.cell? ⟨w0.heap.size, 0, none⟩ = some (.int .u32 x.1) := by rw [hbx.cell]; rfl
  have bx1 : wr.cell? ⟨w0.heap.size, 1, none⟩ = some (.int .i64 x.2) := by rw [hbx.cell]; rfl
  have hbl := hbx.lt
  obtain ⟨Am, cm, s1, s2, s3, s4, _⟩ := hB.2.2.2.spot hn
  obtain ⟨q0, q1, q2, f0, f1, f2, g1', g2', n1, n2, hneg⟩ := hB.cells
  obtain ⟨g1, c1, w1, hrun, hown, hkk, hat, hz, _⟩ := item_run wr wr.drew Am cm l x s3 hl ⟨rfl, rfl, rfl, rfl⟩
  have hng : (Value.slice Am l.length cm).ownBlock ≠ some g := hB.row_ne s3
  have hngr : (Value.slice Am l.length cm).ownBlock ≠ some gr := fun e => (s4 _ e).2.2 rfl
  have e1 : (l ++ [x]).length = l.length + 1 := by simp
  have hS := hB.setG hn s1 hkk hown (fun r hr => by
    rcases hat r hr with h | h
    · exact .inl h
    · exact .inr (fun hg => by have := hB.1 r hg; omega))
  rw [e1, ← addL_at hn] at hS
  have hq2 := hS.1.cells.2.2.1
  rw [addL_len] at hq2
  have hnb : (Value.slice Am l.length cm).ownBlock ≠ some w0.heap.size := fun h => by have := hGl _ (s4 _ h).1; omega
  have y3 := (hkk.cell (p := ⟨w0.heap.size, 0, none⟩) hbl hnb).trans bx0
  have y4 := (hkk.cell (p := ⟨w0.heap.size, 1, none⟩) hbl hnb).trans bx1
  have y5 : w0.heap.size ≠ gr := fun h => by have := hGl gr hB.2.2.2.outer.2.1; omega
  refine ⟨Am, _, cm, g1, c1, w1, s1, hrun, ⟨(hkk.cell (p := ⟨g, 2, none⟩) g1' hng).trans q2, (hkk.cell (p := ⟨gr, n, none⟩) g2' hngr).trans s1, (hkk.frozen (p := ⟨gr, n, none⟩) g2' hngr).trans s2⟩, hq2, ⟨_, hS.1, fun j hj => ?_, hS.2⟩, ⟨y3, y4⟩, (World.cell?_setCell_other _ _ _ _ (fun e => by injection e with e _; exact y5 e.symm)).trans y3, (World.cell?_setCell_other _ _ _ _ (fun e => by injection e with e _; exact y5 e.symm)).trans y4⟩
  rcases hj with hj | hj
  · exact .inl hj
  · rw [e1] at hat
    rcases hat j hj with h | h
    · exact .inl (s4 j h).1
    · exact .inr h
def JoI (w : World) (G : Nat → Prop) (g least : Nat) (cnt : Int) (gr cap : Nat) (L1 : List (List It)) (A : Option Addr) (c : Nat) (lst : List It) (k : Nat) (wr : World) : Prop :=
  ∃ Gk : Nat → Prop, LB wr Gk g least cnt gr cap (putAll L1 (lst.take k)) ∧ (∀ j, Gk j → G j ∨ w.heap.size ≤ j) ∧ Keep G w wr ∧ wr.ownsRow 0 54 2 (.slice A lst.length c) lst.length (itL lst) ∧ ∀ r, (Value.slice A lst.length c).ownBlock = some r → ¬ Gk r
theorem putAll_snoc (L : List (List It)) (l : List It) (x : It) : putAll L (l ++ [x]) = addL (putAll L l) (bk x.1 L.length) x := by
  have h := putAll_len l L
  unfold putAll at h ⊢
  rw [List.foldl_append]
  show addL _ (bk x.1 _) x = _
  rw [h]
theorem JoI.start {m : Nat} (hB : LB w G g least cnt gr cap L) (hm : L.length = m + 1) (hl : L[m]? = some lst) (hc : w.cell? ⟨gr, m, none⟩ = some (.slice A lst.length c)) :
    JoI w G g least cnt gr cap (L.take m) A c lst 0 (w.setCell ⟨g, 2, none⟩ (.slice (some ⟨gr, 0, none⟩) m cap)) := by
  have hk : Keep (fun k => k = g) w (w.setCell ⟨g, 2, none⟩ (.slice (some ⟨gr, 0, none⟩) m cap)) := (Keep.refl (fun k => k = g) w).setCell (p := ⟨g, 2, none⟩) (.inl rfl) _
  obtain ⟨A', c', s1, s2, s3, s4, _⟩ := hB.2.2.2.spot hl
  rw [hc] at s1
  injection s1 with s1
  injection s1 with e1 _ e2
  subst e1 e2
  have hng := hB.row_ne s3
  have hneg := hB.cells.2.2.2.2.2.2.2.2.2.2
  obtain ⟨V, r1, r2, r3, r4⟩ := hB.2.2.2.cut (m := m) (by omega)
  obtain ⟨V0, t1, t2, t3, t4⟩ := hB.2.2.2
  have hV : V = V0.take m := by
    have hlen := r1.1; have hlen0 := t1.1
    have e : (L.take m).length = m := by simp; omega
    rw [e] at r1 hlen
    rcases r1.2 with ⟨h', _⟩ | ⟨g', cap', cur, hv, hb, hg, hnc, hcm, hcs, htake⟩
    · cases h'
    rcases t1.2 with ⟨h', _⟩ | ⟨g2', cap2', cur2, hv2, hb2, hg2, hnc2, hcm2, hcs2, htake2⟩
    · cases h'
    have x1 : gr = g' := by injection hv with h5; injection h5 with h5; injection h5
    have x2 : gr = g2' := by injection hv2 with h5; injection h5 with h5; injection h5
    subst x1 x2
    rw [hg] at hg2
    injection hg2 with hg2
    injection hg2 with hg2
    subst hg2
    rw [← htake, ← htake2, List.take_take]
    congr 1
    omega
  obtain ⟨Ax, cx, hVm, _, _⟩ := t3 m lst hl
  have hVl : V0.length = m + 1 := by have := t1.1; omega
  have e : (L.take m).length = m := by simp; omega
  have hlastV : V0[m]? = some (.slice A lst.length c) := by
    rcases t1.2 with ⟨h', _⟩ | ⟨g', cap', cur, hv, hb, hg, hnc, hcm, hcs, htake⟩
    · cases h'
    have x1 : gr = g' := by injection hv with h5; injection h5 with h5; injection h5
    subst x1
    have hg2 : Blk w gr 43 cur := hg
    rw [← htake, List.getElem?_take, if_pos (by omega), Array.getElem?_toList]
    rw [hg2.cell] at hc
    exact hc
  have hpa : putAll (L.take m) (lst.take 0) = L.take m := rfl
  refine ⟨fun j => G j ∧ (Value.slice A lst.length c).ownBlock ≠ some j, ?_, fun j hj => .inl hj.1, hk.mono (fun i _ h => h ▸ hB.2.1), ownsRow_keep s3 hk (fun r hr h => by subst h; exact hng hr), fun r hr h => h.2 hr⟩
  rw [hpa]
  refine ⟨fun j hj => by simpa [World.setCell] using hB.1 j hj.1, ⟨hB.2.1, hng⟩, ?_, V, ownsRow_keep r1 hk (fun r hr h => ?_), ⟨r2, fun h => (s4 _ h).2.2 rfl⟩, fun i li hi => ?_, r4⟩
  · have := hB.2.2.1.set_ 2 (.slice (some ⟨gr, 0, none⟩) m cap)
    rw [e]
    simpa using this
  · have : gr = r := by simpa [Value.ownBlock] using hr
    subst this
    exact hneg h.symm
  · obtain ⟨A2, c2, a1, a2, a3⟩ := r3 i li hi
    refine ⟨A2, c2, a1, ownsRow_keep a2 hk (fun r hr h => by subst h; exact hB.row_ne a2 hr), fun r hr => ⟨a3 r hr, fun h => ?_⟩⟩
    have hil : i < m := by have := (List.getElem?_eq_some_iff.1 hi).1; omega
    rw [hV, List.getElem?_take, if_pos hil] at a1
    have := t4 i m _ _ r a1 hlastV hr h
    omega
theorem JoI.rd {k : Nat} (h : JoI w G g least cnt gr cap L A c lst k wr) : RdI wr wr.heap.size A lst ∧ wr.cell? ⟨g, 2, none⟩ = some (.slice (some ⟨gr, 0, none⟩) L.length cap) := by
  obtain ⟨Gk, hB, hG, hk, h6, h7⟩ := h
  have := hB.cells.2.2.1
  rw [putAll_len] at this
  exact ⟨RdI.of_own h6, this⟩
/-- An item is put. -/
theorem JoI.step {k : Nat} {x : It} (h : JoI w G g least cnt gr cap L A c lst k w0) (hwr : w0.alloc (.cells #[.int .u32 x.1, .int .i64 x.2] 54) = wr) (hx : lst[k]? = some x) (m1 : 1 ≤ L.length) (m2 : L.length ≤ 1048576) (hl : ∀ k, ∀ l ∈ putAll L (lst.take k), l.length ≤ 1099511627776) :
    wr.cell? ⟨g, 2, none⟩ = some (.slice (some ⟨gr, 0, none⟩) L.length cap) ∧ wr.cell? ⟨w0.heap.size, 0, none⟩ = some (.int .u32 x.1) ∧ wr.cell? ⟨w0.heap.size, 1, none⟩ = some (.int .i64 x.2) ∧
    ∃ Am nm cm g1 c1 w1, wr.cell? ⟨gr, bk x.1 L.length, none⟩ = some (.slice Am nm cm) ∧
      (Builtin.append_ #[43, 43] 43 #[.slice Am nm cm, .slice (some ⟨wr.heap.size, 0, none⟩) 1 1]).run Try.prog (wr.drew.alloc (.cells #[.int .u32 x.1, .int .i64 x.2] 54)) = .ok (.slice (some ⟨g1, 0, none⟩) (nm + 1) c1) w1 ∧
      (w1.cell? ⟨g, 2, none⟩ = some (.slice (some ⟨gr, 0, none⟩) L.length cap) ∧ w1.cell? ⟨gr, bk x.1 L.length, none⟩ = some (.slice Am nm cm) ∧ w1.frozen? ⟨gr, bk x.1 L.length, none⟩ = false) ∧
      (w1.setCell ⟨gr, bk x.1 L.length, none⟩ (.slice (some ⟨g1, 0, none⟩) (nm + 1) c1)).cell? ⟨g, 2, none⟩ = some (.slice (some ⟨gr, 0, none⟩) L.length cap) ∧
      JoI w G g least cnt gr cap L A c lst (k + 1) (w1.setCell ⟨gr, bk x.1 L.length, none⟩ (.slice (some ⟨g1, 0, none⟩) (nm + 1) c1)) ∧
      (w1.cell? ⟨w0.heap.size, 0, none⟩ = some (.int .u32 x.1) ∧ w1.cell? ⟨w0.heap.size, 1, none⟩ = some (.int .i64 x.2)) ∧ ((w1.setCell ⟨gr, bk x.1 L.length, none⟩ (.slice (some ⟨g1, 0, none⟩) (nm + 1) c1)).cell? ⟨w0.heap.size, 0, none⟩ = some (.int .u32 x.1) ∧ (w1.setCell ⟨gr, bk x.1 L.length, none⟩ (.slice (some ⟨g1, 0, none⟩) (nm + 1) c1)).cell? ⟨w0.heap.size, 1, none⟩ = some (.int .i64 x.2)) := by
  obtain ⟨Gk, hB0, hG, hk, h6, h7⟩ := h
  have ha : Keep (fun _ => False) w0 wr := by rw [← hwr]; exact (Keep.refl _ w0).alloc _
  have hB := hB0.keep ha (fun _ _ h => h)
  have hbx : Blk wr w0.heap.size 54 #[.int .u32 x.1, .int .i64 x.2] := by rw [← hwr]; exact Blk.new _ _ _
  have hlt : bk x.1 L.length < (putAll L (lst.take k)).length := by rw [putAll_len]; exact bk_lt m1 m2
  obtain ⟨l, hll⟩ : ∃ l, (putAll L (lst.take k))[bk x.1 L.length]? = some l := ⟨_, List.getElem?_eq_getElem hlt⟩
  obtain ⟨Am, nm, cm, g1, c1, w1, s1, hrun, k3, z2, ⟨Gn, hn1, hn2, hn3⟩, y1, y2⟩ := LB.put hB0.1 hwr hB hll (hl k l (List.mem_of_getElem? hll))
  rw [putAll_len] at k3 z2
  have hq := hB.cells.2.2.1
  rw [putAll_len] at hq
  refine ⟨hq, by rw [hbx.cell]; rfl, by rw [hbx.cell]; rfl, Am, nm, cm, g1, c1, w1, s1, hrun, k3, z2, ⟨Gn, ?_, fun j hj => ?_, ?_, ?_, fun r hr hg => ?_⟩, y1, y2⟩
  · have e : lst.take (k + 1) = lst.take k ++ [x] := by rw [List.take_add_one, hx]; rfl
    rw [e, putAll_snoc]
    exact hn1
  · rcases hn2 j hj with h | h
    · exact hG j h
    · exact .inr (Nat.le_trans (Nat.le_trans hk.size ha.size) h)
  · refine (hk.trans (ha.mono (fun _ _ h => h.elim)) (fun _ _ h => h)).trans hn3 (fun i hi hGi => ?_)
    rcases hG i hGi with h | h
    · exact h
    · omega
  · exact ownsRow_keep (ownsRow_keep h6 ha (fun _ _ h => h)) hn3 (fun r hr h => h7 r hr h)
  · rcases hn2 r hg with h | h
    · exact h7 r hr h
    · have := (h6.lt r hr).2; have := ha.size; omega
end
set_option maxRecDepth 100000 in
set_option maxHeartbeats 16000000 in
theorem join_any {w : World} {G : Nat → Prop} {g least gr cap : Nat} {cnt : Int} {L : List (List It)} (hB : LB w G g least cnt gr cap L) (m0 : 1 ≤ least) (m1 : least < L.length) (m2 : L.length ≤ 65536) (hl : ∀ k, ∀ l ∈ putAll (L.take (L.length - 1)) ((L.getD (L.length - 1) []).take k), l.length ≤ 1099511627776) (hl2 : ∀ l ∈ L, l.length ≤ 1099511627776) (hh : ∀ l ∈ L, ∀ x ∈ l, 0 ≤ x.1 ∧ x.1 ≤ 4294967295) :
    Calls Try.prog 20 #[.pointer (some ⟨g, 0, none⟩)] w fun e w' => e = .returned (.int .i64 0) ∧ (∃ gr' cap', LB w' (upG G w w') g least cnt gr' cap' (joinL L)) ∧ Keep G w w' := by
  obtain ⟨q0, q1, q2, f0, f1, f2, g1, g2, n1, n2, hne⟩ := hB.cells
  obtain ⟨m, hm⟩ : ∃ m, L.length = m + 1 := ⟨L.length - 1, by omega⟩
  rw [hm] at q2 m1 m2 n1
  obtain ⟨lst, hlst⟩ : ∃ l, L[m]? = some l := ⟨_, List.getElem?_eq_getElem (by omega)⟩
  have hgd : L.getD m [] = lst := by rw [List.getD_eq_getElem?_getD, hlst]; rfl
  have hjo : joinL L = putAll (L.take m) lst := by unfold joinL; rw [hm, Nat.add_sub_cancel, hgd]
  rw [hjo]
  rw [hm, Nat.add_sub_cancel, hgd] at hl
  obtain ⟨A, c, jc, xx1, xx2, xx3, xx4⟩ := hB.2.2.2.spot hlst
  clear xx1 xx2 xx3 xx4
  have hlen := hl2 lst (List.mem_of_getElem? hlst)
  have hhl := hh lst (List.mem_of_getElem? hlst)
  have HN := Lib.hid (none_no g gr (m + 1) cap w q2)
  have HST := Lib.hid (show ∀ W' : World, W'.heap = w.heap ∧ W'.os = w.os ∧ W'.tape = w.tape ∧ W'.output = w.output → JoI w G g least cnt gr cap (L.take m) A c lst 0 (W'.setCell ⟨g, 2, none⟩ (.slice (some ⟨gr, 0, none⟩) m cap)) from fun W' ⟨u1, u2, u3, u4⟩ => by
    obtain ⟨Gk, h1, h2, h3, h4, h5⟩ := JoI.start hB hm hlst jc
    have hh : (W'.setCell ⟨g, 2, none⟩ (.slice (some ⟨gr, 0, none⟩) m cap)).heap = (w.setCell ⟨g, 2, none⟩ (.slice (some ⟨gr, 0, none⟩) m cap)).heap := by simp [World.setCell, u1]
    have hk : Keep (fun _ => False) (w.setCell ⟨g, 2, none⟩ (.slice (some ⟨gr, 0, none⟩) m cap)) (W'.setCell ⟨g, 2, none⟩ (.slice (some ⟨gr, 0, none⟩) m cap)) := ⟨u2, u3, u4, by rw [hh]; exact Nat.le_refl _, fun k _ _ => by rw [hh]⟩
    exact ⟨Gk, h1.keep hk (fun _ _ h => h), h2, h3.trans hk (fun _ _ h => h.elim), ownsRow_keep h4 hk (fun _ _ h => h), h5⟩)
  have htl : (L.take m).length = m := by simp; omega
  obtain ⟨L1, hL1⟩ : ∃ L1, L.take m = L1 := ⟨_, rfl⟩
  rw [hL1] at hl HST htl ⊢
  have HG := Lib.hid hB.1
  have HHL := Lib.hid hhl
  have HL := Lib.hid hl
  have HM2 := Lib.hid (show m ≤ 65536 from by omega)
  have HM1 := Lib.hid (show 1 ≤ m from by omega)
  have hll : lst.length < 9223372036854775807 := by omega
  have t1 : decide (((m : Int) + 1) ≤ (least : Int)) = false := decide_eq_false (by omega)
  have w1 : IntKind.i64.wrap (m : Int) = (m : Int) := IntWalk.i64_in _ (by omega)
  have i1 : (m : Int) < (m : Int) + 1 := by omega
  have i0 : (0 : Int) ≤ (m : Int) := by omega
  have i2 : (m : Int) ≤ (cap : Int) := by omega
  have i3 : m ≤ cap := by omega
  clear hB hl hl2 hh hhl hlst hgd hjo hm hL1 m1 m2 m0 n1 n2 f0 f1
  go_enter Try.func20, Try.ntmps20
  go_wp2_with (first
    | (go_at_call 37; refine HN.out.mono ?_; rintro e w' ⟨rfl, rfl⟩)
    | fail)
  go_quiet (fail)
  go_wp2_with fail
  go_quiet (fail)
  go_wp2_with fail
  go_region
  have HI0 := Lib.hid (fun d => HST.out (w.drewN d) ⟨rfl, rfl, rfl, rfl⟩)
  clear HST HN q0 q1 q2 f2 jc t1 w1 i1 i0 i2 i3
  go_wp2_with fail
  go_loopw [49] (fun i wr => ∃ k : Nat, k ≤ lst.length ∧ i = .int .i64 (k : Int) ∧ JoI w G g least cnt gr cap L1 A c lst k wr) (fun i _ => lst.length - (intOf i).toNat)
  case atStart => exact ⟨0, Nat.zero_le _, rfl, HI0.out _⟩
  case round =>
    obtain ⟨k, hk, rfl, hI⟩ := hrel
    clear HI0
    by_cases hlt : k < lst.length
    · obtain ⟨⟨x, y⟩, hx⟩ : ∃ x, lst[k]? = some x := ⟨_, List.getElem?_eq_getElem hlt⟩
      obtain ⟨hrd, hb2⟩ := hI.rd
      obtain ⟨gi, rfl, hgi, x0, x1⟩ := hrd k _ hx
      have hx2 := HHL.out _ (List.mem_of_getElem? hx)
      simp only at hx2 x0 x1
      obtain ⟨Wa, hWa⟩ : ∃ Wa, wr.alloc (.cells #[.int .u32 x, .int .i64 y] 54) = Wa := ⟨_, rfl⟩
      obtain ⟨j2, jx, jy, Am, nm, cm, ga, ca, w3, jr, hrun, ⟨k2, k3, kf⟩, z2, hI3, ⟨kx, ky⟩, zx, zy⟩ := hI.step hWa hx (by rw [htl]; exact HM1.out) (by rw [htl]; have := HM2.out; omega) HL.out
      rw [htl] at j2 jr k2 k3 kf z2 hI3 zx zy
      simp only at jx jy jr hrun k3 kf z2 hI3 kx ky zx zy
      have jg : g < Wa.heap.size := World.block_lt_of_cell? _ _ j2
      have jb : wr.heap.size < Wa.heap.size := by rw [← hWa]; simp
      have HOF := Lib.hid (of_any g gr m cap x Wa j2 hx2.1 hx2.2 HM1.out (by have := HM2.out; omega))
      have hbl := bk_lt (h := x) HM1.out (show m ≤ 1048576 by have := HM2.out; omega)
      obtain ⟨n, hn⟩ : ∃ n, bk x m = n := ⟨_, rfl⟩
      rw [hn] at HOF jr k3 kf z2 hI3 zx zy hbl
      have hnm : (n : Int) < (m : Int) := by omega
      have hnz : (0 : Int) ≤ (n : Int) := by omega
      have HWA := Lib.hid hWa
      have HRUN := Lib.hid hrun
      obtain ⟨W3, hW3⟩ : ∃ W3, w3.setCell ⟨gr, n, none⟩ (.slice (some ⟨ga, 0, none⟩) (nm + 1) ca) = W3 := ⟨_, rfl⟩
      rw [hW3] at hI3
      have HW3 := Lib.hid hW3
      have HI3 := Lib.hid hI3
      have jr1 : (World.drew Wa).cell? ⟨gr, n, none⟩ = some (.slice Am nm cm) := jr
      have jr3 : (World.drew (Wa.alloc (.cells #[.int .u32 x, .int .i64 y] 54))).cell? ⟨gr, n, none⟩ = some (.slice Am nm cm) := (World.cell?_alloc_lt Wa _ _ (World.block_lt_of_cell? _ _ jr1)).trans jr1
      clear hI hrd hx hx2 hWa hrun hI3 hW3 hn hb2 hbl
      go_wp2_with fail
      rw [HWA.out]
      refine HOF.out.mono ?_
      rintro e w' ⟨rfl, rfl⟩
      go_wp2_with fail
      refine wp_region_held_drew (S := fun wx => wx.cell? ⟨g, 2, none⟩ = some (.slice (some ⟨gr, 0, none⟩) m cap) ∧ (wx.cell? ⟨wr.heap.size, 0, none⟩ = some (.int .u32 x) ∧ wx.cell? ⟨wr.heap.size, 1, none⟩ = some (.int .i64 y))) (by kernel_rfl) (by first | exact ⟨j2, jx, jy⟩ | exact ⟨(World.cell?_alloc_lt _ _ _ jg).trans j2, (World.cell?_alloc_lt _ _ _ jb).trans jx, (World.cell?_alloc_lt _ _ _ jb).trans jy⟩ | exact ⟨k2, kx, ky⟩ | exact ⟨z2, zx, zy⟩) (fun hHeld => ?_)
      refine wpAnyH_take (i := 0) (oi := ⟨some 57, _, _, _, _, _⟩) (v := ?_) rfl (by kernel_rfl) (by kernel_rfl) (by kernel_rfl) (fun _ _ _ h => h) (Or.inl ⟨by rfl, ?_⟩) (by assumption) ?_
      rotate_left
      · intro wS hSw; (try dsimp only at hSw); go_simp; try with_reducible rfl
      try simp only [Act.put, List.setIfInBounds_toArray, List.set_cons_zero, List.set_cons_succ]
      refine wpAnyH_take (i := 1) (oi := ⟨some 58, _, _, _, _, _⟩) (v := ?_) rfl (by kernel_rfl) (by kernel_rfl) (by kernel_rfl) (fun _ _ _ h => h) (Or.inl ⟨by rfl, ?_⟩) (by assumption) ?_
      rotate_left
      · intro wS hSw; (try dsimp only at hSw); go_simp; try with_reducible rfl
      try simp only [Act.put, List.setIfInBounds_toArray, List.set_cons_zero, List.set_cons_succ]
      refine wpAnyH_take (i := 2) (oi := ⟨some 59, _, _, _, _, _⟩) (v := ?_) rfl (by kernel_rfl) (by kernel_rfl) (by kernel_rfl) (fun _ _ _ h => h) (Or.inl ⟨by rfl, ?_⟩) (by assumption) ?_
      rotate_left
      · intro wS hSw; (try dsimp only at hSw); go_simp; try with_reducible rfl
      try simp only [Act.put, List.setIfInBounds_toArray, List.set_cons_zero, List.set_cons_succ]
      refine wpAnyH_take (i := 3) (oi := ⟨some 60, _, _, _, _, _⟩) (v := ?_) rfl (by kernel_rfl) (by kernel_rfl) (by kernel_rfl) (fun _ _ _ h => h) (Or.inl ⟨by rfl, ?_⟩) (by assumption) ?_
      rotate_left
      · intro wS hSw; (try dsimp only at hSw); go_simp; try with_reducible rfl
      try simp only [Act.put, List.setIfInBounds_toArray, List.set_cons_zero, List.set_cons_succ]
      refine wpAnyH_take (i := 4) (oi := ⟨some 61, _, _, _, _, _⟩) (v := ?_) rfl (by kernel_rfl) (by kernel_rfl) (by kernel_rfl) (fun _ _ _ h => h) (Or.inl ⟨by rfl, ?_⟩) (by assumption) ?_
      rotate_left
      · intro wS hSw; (try dsimp only at hSw); go_simp; try with_reducible rfl
      try simp only [Act.put, List.setIfInBounds_toArray, List.set_cons_zero, List.set_cons_succ]
      refine wpAnyH_take (i := 5) (oi := ⟨some 62, _, _, _, _, _⟩) (v := ?_) rfl (by kernel_rfl) (by kernel_rfl) (by kernel_rfl) (fun _ _ _ h => h) (Or.inl ⟨by rfl, ?_⟩) (by assumption) ?_
      rotate_left
      · intro wS hSw; (try dsimp only at hSw); go_simp; try with_reducible rfl
      try simp only [Act.put, List.setIfInBounds_toArray, List.set_cons_zero, List.set_cons_succ]
      refine wpAnyH_take (i := 6) (oi := ⟨some 63, _, _, _, _, _⟩) (v := ?_) rfl (by kernel_rfl) (by kernel_rfl) (by kernel_rfl) (fun _ _ _ h => h) (Or.inl ⟨by rfl, ?_⟩) (by assumption) ?_
      rotate_left
      · intro wS hSw; (try dsimp only at hSw); go_simp; try with_reducible rfl
      try simp only [Act.put, List.setIfInBounds_toArray, List.set_cons_zero, List.set_cons_succ]
      refine wpAnyH_take (i := 7) (oi := ⟨some 64, _, _, _, _, _⟩) (v := ?_) rfl (by kernel_rfl) (by kernel_rfl) (by kernel_rfl) (fun _ _ _ h => h) (Or.inl ⟨by rfl, ?_⟩) (by assumption) ?_
      rotate_left
      · intro wS hSw; (try dsimp only at hSw); go_simp; try with_reducible rfl
      try simp only [Act.put, List.setIfInBounds_toArray, List.set_cons_zero, List.set_cons_succ]
      refine wpAnyH_take (i := 8) (oi := ⟨some 65, _, _, _, _, _⟩) (v := ?_) rfl (by kernel_rfl) (by kernel_rfl) (by kernel_rfl) (fun _ _ _ h => h) (Or.inl ⟨by rfl, ?_⟩) (by assumption) ?_
      rotate_left
      · intro wS hSw; (try dsimp only at hSw); go_simp; try with_reducible rfl
      try simp only [Act.put, List.setIfInBounds_toArray, List.set_cons_zero, List.set_cons_succ]
      refine wpAnyH_take (i := 9) (oi := ⟨some 66, _, _, _, _, _⟩) (v := ?_) rfl (by kernel_rfl) (by kernel_rfl) (by kernel_rfl) (fun _ _ _ h => h) (Or.inl ⟨by rfl, ?_⟩) (by assumption) ?_
      rotate_left
      · intro wS hSw; (try dsimp only at hSw); go_simp; try with_reducible rfl
      try simp only [Act.put, List.setIfInBounds_toArray, List.set_cons_zero, List.set_cons_succ]
      refine wpAnyH_take (i := 10) (oi := ⟨some 67, _, _, _, _, _⟩) (v := ?_) rfl (by kernel_rfl) (by kernel_rfl) (by kernel_rfl) (fun _ _ _ h => h) (Or.inl ⟨by rfl, ?_⟩) (by assumption) ?_
      rotate_left
      · intro wS hSw; (try dsimp only at hSw); go_simp; try with_reducible rfl
      try simp only [Act.put, List.setIfInBounds_toArray, List.set_cons_zero, List.set_cons_succ]
      refine wpAnyH_take (i := 12) (oi := ⟨some 69, _, _, _, _, _⟩) (v := ?_) rfl (by kernel_rfl) (by kernel_rfl) (by kernel_rfl) (fun _ _ _ h => h) (Or.inl ⟨by rfl, ?_⟩) (by assumption) ?_
      rotate_left
      · intro wS hSw; (try dsimp only at hSw); go_simp; try with_reducible rfl
      try simp only [Act.put, List.setIfInBounds_toArray, List.set_cons_zero, List.set_cons_succ]
      refine wpAnyH_ready (rs := [11, 13]) (by kernel_rfl) (by simp) ?_
      refine AllReadyH.cons (o := ⟨some 68, _, _, _, _, _⟩) rfl (fun K hK => ?_) ?_
      · go_simp
        refine hK.out _ _ (by first | exact ⟨j2, jx, jy⟩ | exact ⟨(World.cell?_alloc_lt _ _ _ jg).trans j2, (World.cell?_alloc_lt _ _ _ jb).trans jx, (World.cell?_alloc_lt _ _ _ jb).trans jy⟩ | exact ⟨k2, kx, ky⟩ | exact ⟨z2, zx, zy⟩) (fun hHeld => ?_)
        clear hK K
        try simp only [Act.put, List.setIfInBounds_toArray, List.set_cons_zero, List.set_cons_succ]
        refine wpAnyH_ready (rs := [13]) (by kernel_rfl) (by simp) ?_
        refine AllReadyH.cons (o := ⟨some 70, _, _, _, _, _⟩) rfl (fun K hK => ?_) AllReadyH.nil
        go_simp
        refine hK.out _ _ (by first | exact ⟨j2, jx, jy⟩ | exact ⟨(World.cell?_alloc_lt _ _ _ jg).trans j2, (World.cell?_alloc_lt _ _ _ jb).trans jx, (World.cell?_alloc_lt _ _ _ jb).trans jy⟩ | exact ⟨k2, kx, ky⟩ | exact ⟨z2, zx, zy⟩) (fun hHeld => ?_)
        clear hK K
        try simp only [Act.put, List.setIfInBounds_toArray, List.set_cons_zero, List.set_cons_succ]
        refine wpAnyH_ready (rs := [14]) (by kernel_rfl) (by simp) ?_
        refine AllReadyH.cons (o := ⟨some 71, _, _, _, _, _⟩) rfl (fun K hK => ?_) AllReadyH.nil
        refine step_append_run (.tmp 68) (.tmp 70) 43 _ _ _ HRUN.out rfl rfl (by simp [Act.eval, Act.put]) (by simp [Act.eval, Act.put]) ?_
        refine hK.out _ _ (by first | exact ⟨j2, jx, jy⟩ | exact ⟨(World.cell?_alloc_lt _ _ _ jg).trans j2, (World.cell?_alloc_lt _ _ _ jb).trans jx, (World.cell?_alloc_lt _ _ _ jb).trans jy⟩ | exact ⟨k2, kx, ky⟩ | exact ⟨z2, zx, zy⟩) (fun hHeld => ?_)
        clear hK K
        try simp only [Act.put, List.setIfInBounds_toArray, List.set_cons_zero, List.set_cons_succ]
        refine wpAnyH_take (i := 15) (oi := ⟨some 72, _, _, _, _, _⟩) (v := ?_) rfl (by kernel_rfl) (by kernel_rfl) (by kernel_rfl) (fun _ _ _ h => h) (Or.inl ⟨by rfl, ?_⟩) (by assumption) ?_
        rotate_left
        · intro wS hSw; (try dsimp only at hSw); go_simp; try with_reducible rfl
        try simp only [Act.put, List.setIfInBounds_toArray, List.set_cons_zero, List.set_cons_succ]
        refine wpAnyH_ready (rs := [16]) (by kernel_rfl) (by simp) ?_
        refine AllReadyH.cons (o := ⟨none, _, _, _, _, _⟩) rfl (fun K hK => ?_) AllReadyH.nil
        go_simp
        refine hK.out _ _ (by first | exact ⟨j2, jx, jy⟩ | exact ⟨(World.cell?_alloc_lt _ _ _ jg).trans j2, (World.cell?_alloc_lt _ _ _ jb).trans jx, (World.cell?_alloc_lt _ _ _ jb).trans jy⟩ | exact ⟨k2, kx, ky⟩ | exact ⟨z2, zx, zy⟩) (fun hHeld => ?_)
        clear hK K
        try simp only [Act.put, List.setIfInBounds_toArray, List.set_cons_zero, List.set_cons_succ]
        refine wpAnyH_done (by kernel_rfl) ?_ _
        rw [HW3.out]
        go_wp2_with fail
        go_roundw
        case rel => exact ⟨k + 1, by omega, by go_num, HI3.out⟩
        case measure => simp [intOf]; omega
      refine AllReadyH.cons (o := ⟨some 70, _, _, _, _, _⟩) rfl (fun K hK => ?_) ?_
      · go_simp
        refine hK.out _ _ (by first | exact ⟨j2, jx, jy⟩ | exact ⟨(World.cell?_alloc_lt _ _ _ jg).trans j2, (World.cell?_alloc_lt _ _ _ jb).trans jx, (World.cell?_alloc_lt _ _ _ jb).trans jy⟩ | exact ⟨k2, kx, ky⟩ | exact ⟨z2, zx, zy⟩) (fun hHeld => ?_)
        clear hK K
        try simp only [Act.put, List.setIfInBounds_toArray, List.set_cons_zero, List.set_cons_succ]
        refine wpAnyH_ready (rs := [11]) (by kernel_rfl) (by simp) ?_
        refine AllReadyH.cons (o := ⟨some 68, _, _, _, _, _⟩) rfl (fun K hK => ?_) AllReadyH.nil
        go_simp
        refine hK.out _ _ (by first | exact ⟨j2, jx, jy⟩ | exact ⟨(World.cell?_alloc_lt _ _ _ jg).trans j2, (World.cell?_alloc_lt _ _ _ jb).trans jx, (World.cell?_alloc_lt _ _ _ jb).trans jy⟩ | exact ⟨k2, kx, ky⟩ | exact ⟨z2, zx, zy⟩) (fun hHeld => ?_)
        clear hK K
        try simp only [Act.put, List.setIfInBounds_toArray, List.set_cons_zero, List.set_cons_succ]
        refine wpAnyH_ready (rs := [14]) (by kernel_rfl) (by simp) ?_
        refine AllReadyH.cons (o := ⟨some 71, _, _, _, _, _⟩) rfl (fun K hK => ?_) AllReadyH.nil
        refine step_append_run (.tmp 68) (.tmp 70) 43 _ _ _ HRUN.out rfl rfl (by simp [Act.eval, Act.put]) (by simp [Act.eval, Act.put]) ?_
        refine hK.out _ _ (by first | exact ⟨j2, jx, jy⟩ | exact ⟨(World.cell?_alloc_lt _ _ _ jg).trans j2, (World.cell?_alloc_lt _ _ _ jb).trans jx, (World.cell?_alloc_lt _ _ _ jb).trans jy⟩ | exact ⟨k2, kx, ky⟩ | exact ⟨z2, zx, zy⟩) (fun hHeld => ?_)
        clear hK K
        try simp only [Act.put, List.setIfInBounds_toArray, List.set_cons_zero, List.set_cons_succ]
        refine wpAnyH_take (i := 15) (oi := ⟨some 72, _, _, _, _, _⟩) (v := ?_) rfl (by kernel_rfl) (by kernel_rfl) (by kernel_rfl) (fun _ _ _ h => h) (Or.inl ⟨by rfl, ?_⟩) (by assumption) ?_
        rotate_left
        · intro wS hSw; (try dsimp only at hSw); go_simp; try with_reducible rfl
        try simp only [Act.put, List.setIfInBounds_toArray, List.set_cons_zero, List.set_cons_succ]
        refine wpAnyH_ready (rs := [16]) (by kernel_rfl) (by simp) ?_
        refine AllReadyH.cons (o := ⟨none, _, _, _, _, _⟩) rfl (fun K hK => ?_) AllReadyH.nil
        go_simp
        refine hK.out _ _ (by first | exact ⟨j2, jx, jy⟩ | exact ⟨(World.cell?_alloc_lt _ _ _ jg).trans j2, (World.cell?_alloc_lt _ _ _ jb).trans jx, (World.cell?_alloc_lt _ _ _ jb).trans jy⟩ | exact ⟨k2, kx, ky⟩ | exact ⟨z2, zx, zy⟩) (fun hHeld => ?_)
        clear hK K
        try simp only [Act.put, List.setIfInBounds_toArray, List.set_cons_zero, List.set_cons_succ]
        refine wpAnyH_done (by kernel_rfl) ?_ _
        rw [HW3.out]
        go_wp2_with fail
        go_roundw
        case rel => exact ⟨k + 1, by omega, by go_num, HI3.out⟩
        case measure => simp [intOf]; omega
      exact AllReadyH.nil
    · obtain rfl : k = lst.length := by omega
      obtain ⟨Gk, h1, h2, h3, h4, h5⟩ := hI
      rw [List.take_length] at h1
      have HF := Lib.hid (show (∃ gr' cap', LB wr (upG G w wr) g least cnt gr' cap' (putAll L1 lst)) ∧ Keep G w wr from ⟨⟨_, _, h1.mono (fun j hj => by
        have hjl := h1.1 j hj
        rcases h2 j hj with h | h
        · exact .inl h
        · exact .inr ⟨h, hjl⟩) (fun j hj => by
        rcases hj with hj | hj
        · exact Nat.lt_of_lt_of_le (HG.out j hj) h3.size
        · exact hj.2)⟩, h3⟩)
      clear h1 h2 h3 h4 h5
      go_wp2_with fail
      go_ret
      exact ⟨rfl, HF.out⟩
end Go.Proofs.Ytjipncpplpfobaa.Lb
