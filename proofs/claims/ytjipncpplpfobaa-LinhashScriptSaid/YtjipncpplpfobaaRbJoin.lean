/- The document's Join of buckets, by its contract. -/
import Derived.Test.YtjipncpplpfobaaRbSplit
namespace Go.Proofs.Ytjipncpplpfobaa.Lb
open Go.RowKit K Hs
set_option linter.unusedVariables false
set_option linter.unusedSimpArgs false

/-- append([][]Item{}, b.B[:m]...): the run, told ahead. -/
theorem appR {w : World} {G : Nat → Prop} {gr cap : Nat} {L : List (List It)} (h : Rws w G gr cap L) {m : Nat} (hm : m ≤ L.length) (m1 : 1 ≤ m) (m2 : m ≤ 65536) :
    ∃ gr2 cap2 w1, (Builtin.append_ #[37, 37] 37 #[.slice (some ⟨w.heap.size, 0, none⟩) 0 0, .slice (some ⟨gr, 0, none⟩) m cap]).run Try.prog (w.drew.alloc (.cells #[] 43)) = .ok (.slice (some ⟨gr2, 0, none⟩) m cap2) w1 ∧
      Below w.heap.size w w1 ∧ w.heap.size ≤ gr2 ∧ Rws w1 (fun k => G k ∨ (w.heap.size ≤ k ∧ k < w1.heap.size)) gr2 cap2 (L.take m) := by
  have bd0 : Below w.heap.size w w.drew := below_drew (Below.refl _ _)
  have hba := bal bd0 (.cells #[] 43)
  obtain ⟨V, h1, h2, h3, h4⟩ := h
  have hone : ∀ u ∈ V.take m, u.oneCell' = true := fun u hu => by
    obtain ⟨i, hi, rfl⟩ := List.getElem_of_mem (List.mem_of_mem_take hu)
    have hVl : V.length = L.length := by have := h1.1; omega
    obtain ⟨A, c, a1, _⟩ := h3 i _ (List.getElem?_eq_getElem (by omega))
    rw [List.getElem?_eq_getElem hi] at a1
    injection a1 with a1
    rw [a1]
    rfl
  have hr : Reads w w.heap.size 1 (some ⟨gr, 0, none⟩) m (V.take m) := by
    have := Reads.take_ (Reads.of_own h1) (k := m) hm
    rwa [Nat.mul_one] at this
  have hA : (w.drew.alloc (.cells #[] 43)).ownsRow w.heap.size 43 1 (.slice (some ⟨w.heap.size, 0, none⟩) 0 0) 0 [] :=
    World.ownsRow_lit (base := w.heap.size) (e := 43) (size := 1) w.drew #[] 0 (Nat.le_refl _) (Nat.zero_le _) (by simp)
  obtain ⟨i0, hi, hz0, hz1, hz2⟩ := info_parts infoII
  obtain ⟨v1, w1, run1, o1, gr1, at1⟩ := run_append_any (P := Try.prog) _ w.heap.size 37 37 43 i0 _ 1 24 Try.underlying37 hi hz0 hz1 hz2 rfl (by decide) (.slice (some ⟨w.heap.size, 0, none⟩) 0 0) 0 [] hA w.heap.size (some ⟨gr, 0, none⟩) m cap (V.take m) (hr.below hba)
    hone (by unfold maxLen; omega) (by omega) hba.size
  rw [Nat.zero_add, List.nil_append] at o1
  obtain ⟨j, rfl⟩ : ∃ j, m = j + 1 := ⟨m - 1, by omega⟩
  obtain ⟨g2, c2, rfl⟩ := ownsRow_succ o1
  have hb : Below w.heap.size w w1 := hba.grown gr1 hba.size (fun r hr2 => (hA.lt r hr2).1)
  have hl := o1.lt g2 (by simp [Value.ownBlock])
  have e : (L.take (j + 1)).length = j + 1 := by simp; omega
  refine ⟨g2, c2, w1, run1, hb, hl.1, V.take (j + 1), by rw [e]; exact ownsRow_base o1 (fun r _ => Nat.zero_le r), .inr hl, fun i l hi => ?_, fun i i' u u' r hi hj hu hu' => ?_⟩
  · rw [List.getElem?_take] at hi
    split at hi
    · rename_i him
      obtain ⟨A, c, a1, a2, a3⟩ := h3 i l hi
      exact ⟨A, c, by rw [List.getElem?_take, if_pos him]; exact a1, ownsRow_below a2 hb (fun r hr => (a2.lt r hr).2), fun r hr => .inl (a3 r hr)⟩
    · cases hi
  · rw [List.getElem?_take] at hi hj
    split at hi <;> split at hj
    · exact h4 i i' u u' r hi hj hu hu'
    all_goals first | cases hi | cases hj
def RjI (w : World) (G : Nat → Prop) (g least gr2 cap2 : Nat) (L1 : List (List It)) (its : List It) (wr : World) : Prop :=
  w.heap.size ≤ gr2 ∧ ∃ Gk : Nat → Prop, RB wr Gk g least gr2 cap2 (putAll L1 its) ∧ (∀ j, Gk j → G j ∨ w.heap.size ≤ j) ∧ Keep (fun k => k = g) w wr
/-- One more item, in a row that is new. -/
theorem RjI.step {w wr w2 : World} {G : Nat → Prop} {g least gr2 cap2 n c2 N : Nat} {A2 : Addr} {L1 : List (List It)} {its l : List It} {x : It} (h : RjI w G g least gr2 cap2 L1 its wr) (hn : bk x.1 L1.length = n) (hl : (putAll L1 its)[n]? = some l) (hN : N = l.length + 1) (hf : Fin wr (l ++ [x]) N A2 c2 w2) :
    RjI w G g least gr2 cap2 L1 (its ++ [x]) (w2.setCell ⟨gr2, n, none⟩ (.slice (some A2) N c2)) := by
  obtain ⟨h0, Gk, h1, h2, h3⟩ := h
  have hF := (h1.fresh hl hf.2 hf.1 (by simp [hN])).1
  have hk2 : Keep (fun k => k = gr2) wr (w2.setCell ⟨gr2, n, none⟩ (.slice (some A2) N c2)) := Keep.setCell (F := fun k => k = gr2) (p := ⟨gr2, n, none⟩) ((show Keep (fun _ => False) wr w2 from Keep.new hf.2).mono (fun i _ (e : False) => e.elim)) (.inl rfl) _
  refine ⟨h0, upG Gk wr (w2.setCell ⟨gr2, n, none⟩ (.slice (some A2) N c2)), ?_, fun j hj => ?_, h3.trans hk2 (fun b hb e => by omega)⟩
  · rw [putAll_snoc, hn, addL_at hl]
    exact hF
  · rcases hj with hj | hj
    · exact h2 j hj
    · exact .inr (Nat.le_trans h3.size hj.1)
set_option maxRecDepth 100000 in
set_option maxHeartbeats 16000000 in
theorem rjoin_any {w : World} {G : Nat → Prop} {g least gr cap : Nat} {L : List (List It)} (hB : RB w G g least gr cap L) (m0 : 1 ≤ least) (m1 : least < L.length) (m2 : L.length ≤ 65536) (hl : ∀ k, ∀ l ∈ putAll (L.take (L.length - 1)) ((L.getD (L.length - 1) []).take k), l.length ≤ 65536) (hl2 : ∀ l ∈ L, l.length ≤ 65536) (hh : ∀ l ∈ L, ∀ x ∈ l, 0 ≤ x.1 ∧ x.1 ≤ 4294967295) :
    Calls Try.prog 34 #[.pointer (some ⟨g, 0, none⟩)] w fun e w' => e = .returned (.int .i64 0) ∧ (∃ gr' cap', RB w' (upG G w w') g least gr' cap' (joinL L)) ∧ Keep G w w' := by
  obtain ⟨q0, q1, f1, g1, g2, n1, n2, hne⟩ := hB.cells
  obtain ⟨m, hm⟩ : ∃ m, L.length = m + 1 := ⟨L.length - 1, by omega⟩
  rw [hm] at q1 m1 m2 n1
  obtain ⟨lst, hlst⟩ : ∃ l, L[m]? = some l := ⟨_, List.getElem?_eq_getElem (by omega)⟩
  have hgd : L.getD m [] = lst := by rw [List.getD_eq_getElem?_getD, hlst]; rfl
  have hjo : joinL L = putAll (L.take m) lst := by unfold joinL; rw [hm, Nat.add_sub_cancel, hgd]
  rw [hjo]
  rw [hm, Nat.add_sub_cancel, hgd] at hl
  obtain ⟨A, c, jc, _, hown, _, _⟩ := hB.2.2.2.spot hlst
  have hlen := hl2 lst (List.mem_of_getElem? hlst)
  have hhl := hh lst (List.mem_of_getElem? hlst)
  have htl : (L.take m).length = m := by simp; omega
  have HBD := Lib.hid (fun d e => (show RB ((w.drewN d).drewN e) G g least gr cap L from hB))
  have HRD := Lib.hid (RdI.of_own hown)
  have HG1 := Lib.hid hB.1
  have HNE := Lib.hid (hB.row_ne hown)
  have HHL := Lib.hid hhl
  have HL := Lib.hid hl
  have HM2 := Lib.hid (show m ≤ 65536 from by omega)
  have HM1 := Lib.hid (show 1 ≤ m from by omega)
  have HLM := Lib.hid (show m ≤ L.length ∧ (L.take m).length = m from ⟨by omega, htl⟩)
  obtain ⟨L1, hL1⟩ : ∃ L1, L.take m = L1 := ⟨_, rfl⟩
  rw [hL1] at HL HLM ⊢
  have HEQ := Lib.hid hL1
  have hll : lst.length ≤ 65536 := hlen
  have t1 : decide (((m : Int) + 1) ≤ (least : Int)) = false := decide_eq_false (by omega)
  have w1 : IntKind.i64.wrap (m : Int) = (m : Int) := IntWalk.i64_in _ (by omega)
  have i1 : (m : Int) < (m : Int) + 1 := by omega
  have i0 : (0 : Int) ≤ (m : Int) := by omega
  have i2 : (m : Int) ≤ (cap : Int) := by omega
  have i3 : m ≤ cap := by omega
  clear hB hl hl2 hh hhl hlst hgd hjo hm m1 m2 m0 n1 n2 hown htl hlen hL1
  go_enter Try.func34, Try.ntmps34
  go_wp2_with fail
  go_quiet (fail)
  go_wp2_with fail
  go_quiet (fail)
  go_wp2_with fail
  rename_i d1 K9 h9
  obtain ⟨d2, hd2⟩ : ∃ d, nq = d := ⟨_, rfl⟩
  rw [hd2]
  have hBv := HBD.out d1 d2
  have hkv : Keep (fun _ => False) w ((w.drewN d1).drewN d2) := ⟨rfl, rfl, rfl, Nat.le_refl _, fun _ _ _ => rfl⟩
  have y1 : ((w.drewN d1).drewN d2).cell? ⟨g, 1, none⟩ = some (.slice (some ⟨gr, 0, none⟩) (m + 1) cap) := q1
  obtain ⟨wv, hwv⟩ : ∃ z, (w.drewN d1).drewN d2 = z := ⟨_, rfl⟩
  have hzv : wv.heap.size = w.heap.size := by rw [← hwv]; rfl
  have hRDv : RdI wv wv.heap.size A lst := by rw [← hwv]; exact HRD.out
  rw [hwv] at hBv hkv y1 ⊢
  obtain ⟨gr2, cap2, w4, hr4, hb4, hgr2, hR4⟩ := appR hBv.2.2.2 HLM.out.1 HM1.out HM2.out
  have hO := hBv.outer hb4 hR4
  have hNEv : (Value.slice A lst.length c).ownBlock ≠ some g := HNE.out
  rw [HEQ.out, HLM.out.2] at hO
  have hk4 : Keep (fun k => k = g) wv (w4.setCell ⟨g, 1, none⟩ (.slice (some ⟨gr2, 0, none⟩) m cap2)) := Keep.setCell (F := fun k => k = g) (p := ⟨g, 1, none⟩) ((show Keep (fun _ => False) wv w4 from Keep.new hb4).mono (fun i _ (e : False) => e.elim)) (.inl rfl) _
  obtain ⟨W4, hW4⟩ : ∃ z, w4.setCell ⟨g, 1, none⟩ (.slice (some ⟨gr2, 0, none⟩) m cap2) = z := ⟨_, rfl⟩
  rw [hW4] at hO hk4
  have HI0 := Lib.hid (show RjI wv G g least gr2 cap2 L1 [] W4 from ⟨hgr2, _, hO.1, fun j hj => by
    rcases hj with hj | hj
    · exact .inl hj
    · exact .inr hj.1, hk4⟩)
  have HR4 := Lib.hid hr4
  have B4 := Lib.hid hb4
  have HW4 := Lib.hid hW4
  have HK4 := Lib.hid (show ∀ wx, Below wv.heap.size wv wx → wx.cell? ⟨g, 1, none⟩ = some (.slice (some ⟨gr, 0, none⟩) (m + 1) cap) from fun wx hb => (hb.cell (p := ⟨g, 1, none⟩) (World.block_lt_of_cell? _ _ y1)).trans y1)
  have y4 : w4.cell? ⟨g, 1, none⟩ = some (.slice (some ⟨gr, 0, none⟩) (m + 1) cap) := HK4.out _ hb4
  have y4f : w4.frozen? ⟨g, 1, none⟩ = false := (World.frozen?_of_block (w := wv) (hb4.block g (hBv.cells.2.2.2.1))).trans hBv.cells.2.2.1
  have bd0 : Below wv.heap.size wv wv.drew := below_drew (Below.refl _ _)
  have HG := Lib.hid (show (∀ k, G k → k < wv.heap.size) ∧ G g from ⟨hBv.1, hBv.2.1⟩)
  have HFIN := Lib.hid (show ∀ W', (∃ gr' cap', RB W' (upG G wv W') g least gr' cap' (putAll L1 lst)) ∧ Keep G wv W' → (∃ gr' cap', RB W' (upG G w W') g least gr' cap' (putAll L1 lst)) ∧ Keep G w W' from fun W' h => by
    obtain ⟨⟨a, b, h1⟩, h2⟩ := h
    unfold upG at h1
    rw [hzv] at h1
    exact ⟨⟨a, b, h1⟩, (hkv.mono (fun _ _ (h : False) => h.elim)).trans h2 (fun _ _ h => h)⟩)
  have HRDv := Lib.hid hRDv
  have HNEv := Lib.hid hNEv
  clear hBv hr4 hb4 hR4 hO hk4 hW4 hgr2 hzv hkv hRDv HBD HRD HNE HG1 hwv q1 f1 g1 g2 hne q0 jc hNEv y1
  refine Zed.begin (S := fun wx => wx.cell? ⟨g, 1, none⟩ = some (.slice (some ⟨gr, 0, none⟩) (m + 1) cap)) (z := 16) (by kernel_rfl) (HK4.out _ bd0) (fun hHeld => ?_)
  refine Zed.take (i := 0) (oi := ⟨some 28, _, _, _, _, _⟩) (v := ?_) rfl (by kernel_rfl) (by kernel_rfl) (by kernel_rfl) (by kernel_rfl) (fun _ _ _ h => h) (Or.inl ⟨by rfl, ?_⟩) (by assumption) ?_
  rotate_left
  · intro wS hSw; (try dsimp only at hSw); go_simp; try with_reducible rfl
  try simp only [Act.put, List.setIfInBounds_toArray, List.set_cons_zero, List.set_cons_succ]
  refine Zed.take (i := 2) (oi := ⟨some 30, _, _, _, _, _⟩) (v := ?_) rfl (by kernel_rfl) (by kernel_rfl) (by kernel_rfl) (by kernel_rfl) (fun _ _ _ h => h) (Or.inl ⟨by rfl, ?_⟩) (by assumption) ?_
  rotate_left
  · intro wS hSw; (try dsimp only at hSw); go_simp; try with_reducible rfl
  try simp only [Act.put, List.setIfInBounds_toArray, List.set_cons_zero, List.set_cons_succ]
  refine Zed.take (i := 3) (oi := ⟨some 31, _, _, _, _, _⟩) (v := ?_) rfl (by kernel_rfl) (by kernel_rfl) (by kernel_rfl) (by kernel_rfl) (fun _ _ _ h => h) (Or.inl ⟨by rfl, ?_⟩) (by assumption) ?_
  rotate_left
  · intro wS hSw; (try dsimp only at hSw); go_simp; try with_reducible rfl
  try simp only [Act.put, List.setIfInBounds_toArray, List.set_cons_zero, List.set_cons_succ]
  refine Zed.take (i := 4) (oi := ⟨some 32, _, _, _, _, _⟩) (v := ?_) rfl (by kernel_rfl) (by kernel_rfl) (by kernel_rfl) (by kernel_rfl) (fun _ _ _ h => h) (Or.inl ⟨by rfl, ?_⟩) (by assumption) ?_
  rotate_left
  · intro wS hSw; (try dsimp only at hSw); go_simp; try with_reducible rfl
  try simp only [Act.put, List.setIfInBounds_toArray, List.set_cons_zero, List.set_cons_succ]
  refine Zed.take (i := 5) (oi := ⟨some 33, _, _, _, _, _⟩) (v := ?_) rfl (by kernel_rfl) (by kernel_rfl) (by kernel_rfl) (by kernel_rfl) (fun _ _ _ h => h) (Or.inl ⟨by rfl, ?_⟩) (by assumption) ?_
  rotate_left
  · intro wS hSw; (try dsimp only at hSw); go_simp; try with_reducible rfl
  try simp only [Act.put, List.setIfInBounds_toArray, List.set_cons_zero, List.set_cons_succ]
  refine Zed.take (i := 6) (oi := ⟨some 34, _, _, _, _, _⟩) (v := ?_) rfl (by kernel_rfl) (by kernel_rfl) (by kernel_rfl) (by kernel_rfl) (fun _ _ _ h => h) (Or.inl ⟨by rfl, ?_⟩) (by assumption) ?_
  rotate_left
  · intro wS hSw; (try dsimp only at hSw); go_simp; try with_reducible rfl
  try simp only [Act.put, List.setIfInBounds_toArray, List.set_cons_zero, List.set_cons_succ]
  refine Zed.take (i := 7) (oi := ⟨some 35, _, _, _, _, _⟩) (v := ?_) rfl (by kernel_rfl) (by kernel_rfl) (by kernel_rfl) (by kernel_rfl) (fun _ _ _ h => h) (Or.inl ⟨by rfl, ?_⟩) (by assumption) ?_
  rotate_left
  · intro wS hSw; (try dsimp only at hSw); go_simp; try with_reducible rfl
  try simp only [Act.put, List.setIfInBounds_toArray, List.set_cons_zero, List.set_cons_succ]
  refine Zed.take (i := 8) (oi := ⟨some 36, _, _, _, _, _⟩) (v := ?_) rfl (by kernel_rfl) (by kernel_rfl) (by kernel_rfl) (by kernel_rfl) (fun _ _ _ h => h) (Or.inl ⟨by rfl, ?_⟩) (by assumption) ?_
  rotate_left
  · intro wS hSw; (try dsimp only at hSw); go_simp; try with_reducible rfl
  try simp only [Act.put, List.setIfInBounds_toArray, List.set_cons_zero, List.set_cons_succ]
  refine Zed.take (i := 9) (oi := ⟨some 37, _, _, _, _, _⟩) (v := ?_) rfl (by kernel_rfl) (by kernel_rfl) (by kernel_rfl) (by kernel_rfl) (fun _ _ _ h => h) (Or.inl ⟨by rfl, ?_⟩) (by assumption) ?_
  rotate_left
  · intro wS hSw; (try dsimp only at hSw); go_simp; try with_reducible rfl
  try simp only [Act.put, List.setIfInBounds_toArray, List.set_cons_zero, List.set_cons_succ]
  refine Zed.take (i := 10) (oi := ⟨some 38, _, _, _, _, _⟩) (v := ?_) rfl (by kernel_rfl) (by kernel_rfl) (by kernel_rfl) (by kernel_rfl) (fun _ _ _ h => h) (Or.inl ⟨by rfl, ?_⟩) (by assumption) ?_
  rotate_left
  · intro wS hSw; (try dsimp only at hSw); go_simp; try with_reducible rfl
  try simp only [Act.put, List.setIfInBounds_toArray, List.set_cons_zero, List.set_cons_succ]
  refine Zed.take (i := 11) (oi := ⟨some 39, _, _, _, _, _⟩) (v := ?_) rfl (by kernel_rfl) (by kernel_rfl) (by kernel_rfl) (by kernel_rfl) (fun _ _ _ h => h) (Or.inl ⟨by rfl, ?_⟩) (by assumption) ?_
  rotate_left
  · intro wS hSw; (try dsimp only at hSw); go_simp; try with_reducible rfl
  try simp only [Act.put, List.setIfInBounds_toArray, List.set_cons_zero, List.set_cons_succ]
  refine Zed.take (i := 12) (oi := ⟨some 40, _, _, _, _, _⟩) (v := ?_) rfl (by kernel_rfl) (by kernel_rfl) (by kernel_rfl) (by kernel_rfl) (fun _ _ _ h => h) (Or.inl ⟨by rfl, ?_⟩) (by assumption) ?_
  rotate_left
  · intro wS hSw; (try dsimp only at hSw); go_simp; try with_reducible rfl
  try simp only [Act.put, List.setIfInBounds_toArray, List.set_cons_zero, List.set_cons_succ]
  refine Zed.ready (rs := [1]) (by kernel_rfl) (by simp) ?_
  refine Zeach.cons (o := ⟨some 29, _, _, _, _, _⟩) rfl (fun K hK => ?_) Zeach.nil
  go_simp
  refine hK.out _ _ (HK4.out _ (by first | exact bd0 | exact bal bd0 _ | exact B4.out)) (fun hHeld => ?_)
  clear hK K
  try simp only [Act.put, List.setIfInBounds_toArray, List.set_cons_zero, List.set_cons_succ]
  refine Zed.ready (rs := [13]) (by kernel_rfl) (by simp) ?_
  refine Zeach.cons (o := ⟨some 41, _, _, _, _, _⟩) rfl (fun K hK => ?_) Zeach.nil
  refine step_append_run (.tmp 29) (.tmp 40) 37 _ _ _ HR4.out rfl rfl (by simp [Act.eval, Act.put]) (by simp [Act.eval, Act.put]) ?_
  refine hK.out _ _ (HK4.out _ (by first | exact bd0 | exact bal bd0 _ | exact B4.out)) (fun hHeld => ?_)
  clear hK K
  try simp only [Act.put, List.setIfInBounds_toArray, List.set_cons_zero, List.set_cons_succ]
  refine Zed.ready (rs := [14]) (by kernel_rfl) (by simp) ?_
  refine Zeach.cons (o := ⟨some 42, _, _, _, _, _⟩) rfl (fun K hK => ?_) Zeach.nil
  go_simp
  refine hK.out _ _ (HK4.out _ (by first | exact bd0 | exact bal bd0 _ | exact B4.out)) (fun hHeld => ?_)
  clear hK K
  try simp only [Act.put, List.setIfInBounds_toArray, List.set_cons_zero, List.set_cons_succ]
  refine Zed.take (i := 15) (oi := ⟨some 43, _, _, _, _, _⟩) (v := ?_) rfl (by kernel_rfl) (by kernel_rfl) (by kernel_rfl) (by kernel_rfl) (fun _ _ _ h => h) (Or.inl ⟨by rfl, ?_⟩) (by assumption) ?_
  rotate_left
  · intro wS hSw; (try dsimp only at hSw); go_simp; try with_reducible rfl
  try simp only [Act.put, List.setIfInBounds_toArray, List.set_cons_zero, List.set_cons_succ]
  refine Zed.ready (rs := [16]) (by kernel_rfl) (by simp) ?_
  refine Zeach.last (o := ⟨none, _, _, _, _, _⟩) rfl (fun K hK => ?_)
  go_simp
  refine hK.out _ _ ?_
  clear hK K
  try simp only [Act.put, List.setIfInBounds_toArray, List.set_cons_zero, List.set_cons_succ]
  refine Zed.done (by kernel_rfl) ?_ _
  rw [HW4.out]
  go_wp2_with fail
  clear bd0 y4 y4f HR4 B4 HW4 HK4
  go_loopw [4] (fun i wr => ∃ k : Nat, k ≤ lst.length ∧ i = .int .i64 (k : Int) ∧ RjI wv G g least gr2 cap2 L1 (lst.take k) wr) (fun i _ => lst.length - (intOf i).toNat)
  case atStart => exact ⟨0, Nat.zero_le _, rfl, HI0.out⟩
  case round =>
    obtain ⟨k, hk, rfl, hI⟩ := hrel
    clear HI0
    have hkb : k ≤ 65536 := by omega
    by_cases hkl : k < lst.length
    · obtain ⟨⟨x, y⟩, hx⟩ : ∃ x, lst[k]? = some x := ⟨_, List.getElem?_eq_getElem hkl⟩
      obtain ⟨gi, rfl, hgi, z0, z1⟩ := HRDv.out k _ hx
      have hI2 := hI
      obtain ⟨hg2, Gk, hRB, hGk, hKp⟩ := hI
      have hgig : gi ≠ g := fun e => HNEv.out (by rw [e]; rfl)
      have j3 := (hKp.cell (p := ⟨gi, k * 2, none⟩) hgi hgig).trans z0
      have j4 := (hKp.cell (p := ⟨gi, k * 2 + 1, none⟩) hgi hgig).trans z1
      obtain ⟨hx1, hx2⟩ := HHL.out _ (List.mem_of_getElem? hx)
      simp only at j3 j4 hx1 hx2
      have hM3 : m ≤ 1048576 := by have := HM2.out; omega
      have hbl := bk_lt (h := x) HM1.out hM3
      obtain ⟨_, j0, _, e1, e2, _⟩ := hRB.cells
      have hL1m : L1.length = m := HLM.out.2
      rw [putAll_len, hL1m] at j0
      have HOF := Lib.hid (rof_any g gr2 m cap2 x wr j0 hx1 hx2 HM1.out hM3)
      obtain ⟨l, hll1⟩ : ∃ l, (putAll L1 (lst.take k))[bk x m]? = some l := ⟨_, List.getElem?_eq_getElem (by rw [putAll_len, hL1m]; exact hbl)⟩
      obtain ⟨n, hn⟩ : ∃ n, bk x m = n := ⟨_, rfl⟩
      rw [hn] at HOF hll1 hbl
      obtain ⟨A8, c8, jr, jf, hown8, _, _⟩ := hRB.2.2.2.spot hll1
      have hl8 : l.length ≤ 65536 := HL.out k l (List.mem_of_getElem? hll1)
      obtain ⟨⟨A1, c1, w1', A2, c2, w2, r1a, b1, r1b, fin1⟩, ⟨A3, c3, w3, A4, c4, w4', r2a, b2, r2b, fin2⟩, A5, c5, w5, A6, c6, w6, r3a, b3, r3b, fin3⟩ := fresh_runs wr A8 c8 l (x, y) l.length rfl (Reads.of_own hown8) (by omega)
      have e9 : lst.take (k + 1) = lst.take k ++ [(x, y)] := by rw [List.take_add_one, hx]; rfl
      have hn' : bk ((x, y) : It).1 L1.length = n := by rw [hL1m]; exact hn
      have F1 := Lib.hid (e9 ▸ hI2.step hn' hll1 rfl fin1)
      have F2 := Lib.hid (e9 ▸ hI2.step hn' hll1 rfl fin2)
      have F3 := Lib.hid (e9 ▸ hI2.step hn' hll1 rfl fin3)
      have HR1a := Lib.hid r1a; have HR1b := Lib.hid r1b; have HR2a := Lib.hid r2a; have HR2b := Lib.hid r2b; have HR3a := Lib.hid r3a; have HR3b := Lib.hid r3b
      have B1 := Lib.hid b1; have B2 := Lib.hid b2; have B3 := Lib.hid b3
      have C1 := Lib.hid fin1.2; have C2 := Lib.hid fin2.2; have C3 := Lib.hid fin3.2
      have hgir := World.block_lt_of_cell? _ _ j3
      have HKS := Lib.hid (show ∀ wx, Below wr.heap.size wr wx → (wx.cell? ⟨g, 1, none⟩ = some (.slice (some ⟨gr2, 0, none⟩) m cap2) ∧ wx.cell? ⟨gr2, n, none⟩ = some (.slice A8 l.length c8)) ∧ (wx.cell? ⟨gi, k * 2, none⟩ = some (.int .u32 x) ∧ wx.cell? ⟨gi, k * 2 + 1, none⟩ = some (.int .i64 y)) from
        fun wx hb => ⟨⟨(hb.cell (p := ⟨g, 1, none⟩) e1).trans j0, (hb.cell (p := ⟨gr2, n, none⟩) e2).trans jr⟩, (hb.cell (p := ⟨gi, k * 2, none⟩) hgir).trans j3, (hb.cell (p := ⟨gi, k * 2 + 1, none⟩) hgir).trans j4⟩)
      have HFZ := Lib.hid (show ∀ wx, Below wr.heap.size wr wx → wx.cell? ⟨gr2, n, none⟩ = some (.slice A8 l.length c8) ∧ wx.frozen? ⟨gr2, n, none⟩ = false from fun wx hb => ⟨(hb.cell (p := ⟨gr2, n, none⟩) e2).trans jr, (World.frozen?_of_block (w := wr) (hb.block gr2 e2)).trans jf⟩)
      obtain ⟨u1, u2⟩ := HFZ.out _ C1.out
      obtain ⟨u3, u4⟩ := HFZ.out _ C2.out
      obtain ⟨u5, u6⟩ := HFZ.out _ C3.out
      have bd0 : Below wr.heap.size wr wr.drew := below_drew (Below.refl _ _)
      have hnm : (n : Int) < (m : Int) := by omega
      have hnz : (0 : Int) ≤ (n : Int) := by omega
      clear hI2 hg2 hRB hGk hKp hx hx1 hx2 hll1 r1a r1b r2a r2b r3a r3b b1 b2 b3 fin1 fin2 fin3 hown8 hn hn' hbl z0 z1 hgi hM3 hgig e9 e1 e2 hL1m hgir jr jf
      go_wp2_with fail
      refine HOF.out.mono ?_
      rintro e w' ⟨rfl, rfl⟩
      go_wp2_with fail
      refine Zed.begin (S := fun wx => (wx.cell? ⟨g, 1, none⟩ = some (.slice (some ⟨gr2, 0, none⟩) m cap2) ∧ wx.cell? ⟨gr2, n, none⟩ = some (.slice A8 l.length c8)) ∧ (wx.cell? ⟨gi, k * 2, none⟩ = some (.int .u32 x) ∧ wx.cell? ⟨gi, k * 2 + 1, none⟩ = some (.int .i64 y))) (z := 21) (by kernel_rfl) (HKS.out _ bd0) (fun hHeld => ?_)
      refine Zed.take (i := 0) (oi := ⟨some 57, _, _, _, _, _⟩) (v := ?_) rfl (by kernel_rfl) (by kernel_rfl) (by kernel_rfl) (by kernel_rfl) (fun _ _ _ h => h) (Or.inl ⟨by rfl, ?_⟩) (by assumption) ?_
      rotate_left
      · intro wS hSw; (try dsimp only at hSw); go_simp; try with_reducible rfl
      try simp only [Act.put, List.setIfInBounds_toArray, List.set_cons_zero, List.set_cons_succ]
      refine Zed.take (i := 1) (oi := ⟨some 58, _, _, _, _, _⟩) (v := ?_) rfl (by kernel_rfl) (by kernel_rfl) (by kernel_rfl) (by kernel_rfl) (fun _ _ _ h => h) (Or.inl ⟨by rfl, ?_⟩) (by assumption) ?_
      rotate_left
      · intro wS hSw; (try dsimp only at hSw); go_simp; try with_reducible rfl
      try simp only [Act.put, List.setIfInBounds_toArray, List.set_cons_zero, List.set_cons_succ]
      refine Zed.take (i := 2) (oi := ⟨some 59, _, _, _, _, _⟩) (v := ?_) rfl (by kernel_rfl) (by kernel_rfl) (by kernel_rfl) (by kernel_rfl) (fun _ _ _ h => h) (Or.inl ⟨by rfl, ?_⟩) (by assumption) ?_
      rotate_left
      · intro wS hSw; (try dsimp only at hSw); go_simp; try with_reducible rfl
      try simp only [Act.put, List.setIfInBounds_toArray, List.set_cons_zero, List.set_cons_succ]
      refine Zed.take (i := 3) (oi := ⟨some 60, _, _, _, _, _⟩) (v := ?_) rfl (by kernel_rfl) (by kernel_rfl) (by kernel_rfl) (by kernel_rfl) (fun _ _ _ h => h) (Or.inl ⟨by rfl, ?_⟩) (by assumption) ?_
      rotate_left
      · intro wS hSw; (try dsimp only at hSw); go_simp; try with_reducible rfl
      try simp only [Act.put, List.setIfInBounds_toArray, List.set_cons_zero, List.set_cons_succ]
      refine Zed.take (i := 4) (oi := ⟨some 61, _, _, _, _, _⟩) (v := ?_) rfl (by kernel_rfl) (by kernel_rfl) (by kernel_rfl) (by kernel_rfl) (fun _ _ _ h => h) (Or.inl ⟨by rfl, ?_⟩) (by assumption) ?_
      rotate_left
      · intro wS hSw; (try dsimp only at hSw); go_simp; try with_reducible rfl
      try simp only [Act.put, List.setIfInBounds_toArray, List.set_cons_zero, List.set_cons_succ]
      refine Zed.take (i := 6) (oi := ⟨some 63, _, _, _, _, _⟩) (v := ?_) rfl (by kernel_rfl) (by kernel_rfl) (by kernel_rfl) (by kernel_rfl) (fun _ _ _ h => h) (Or.inl ⟨by rfl, ?_⟩) (by assumption) ?_
      rotate_left
      · intro wS hSw; (try dsimp only at hSw); go_simp; try with_reducible rfl
      try simp only [Act.put, List.setIfInBounds_toArray, List.set_cons_zero, List.set_cons_succ]
      refine Zed.take (i := 7) (oi := ⟨some 64, _, _, _, _, _⟩) (v := ?_) rfl (by kernel_rfl) (by kernel_rfl) (by kernel_rfl) (by kernel_rfl) (fun _ _ _ h => h) (Or.inl ⟨by rfl, ?_⟩) (by assumption) ?_
      rotate_left
      · intro wS hSw; (try dsimp only at hSw); go_simp; try with_reducible rfl
      try simp only [Act.put, List.setIfInBounds_toArray, List.set_cons_zero, List.set_cons_succ]
      refine Zed.take (i := 8) (oi := ⟨some 65, _, _, _, _, _⟩) (v := ?_) rfl (by kernel_rfl) (by kernel_rfl) (by kernel_rfl) (by kernel_rfl) (fun _ _ _ h => h) (Or.inl ⟨by rfl, ?_⟩) (by assumption) ?_
      rotate_left
      · intro wS hSw; (try dsimp only at hSw); go_simp; try with_reducible rfl
      try simp only [Act.put, List.setIfInBounds_toArray, List.set_cons_zero, List.set_cons_succ]
      refine Zed.take (i := 9) (oi := ⟨some 66, _, _, _, _, _⟩) (v := ?_) rfl (by kernel_rfl) (by kernel_rfl) (by kernel_rfl) (by kernel_rfl) (fun _ _ _ h => h) (Or.inl ⟨by rfl, ?_⟩) (by assumption) ?_
      rotate_left
      · intro wS hSw; (try dsimp only at hSw); go_simp; try with_reducible rfl
      try simp only [Act.put, List.setIfInBounds_toArray, List.set_cons_zero, List.set_cons_succ]
      refine Zed.take (i := 10) (oi := ⟨some 67, _, _, _, _, _⟩) (v := ?_) rfl (by kernel_rfl) (by kernel_rfl) (by kernel_rfl) (by kernel_rfl) (fun _ _ _ h => h) (Or.inl ⟨by rfl, ?_⟩) (by assumption) ?_
      rotate_left
      · intro wS hSw; (try dsimp only at hSw); go_simp; try with_reducible rfl
      try simp only [Act.put, List.setIfInBounds_toArray, List.set_cons_zero, List.set_cons_succ]
      refine Zed.take (i := 11) (oi := ⟨some 68, _, _, _, _, _⟩) (v := ?_) rfl (by kernel_rfl) (by kernel_rfl) (by kernel_rfl) (by kernel_rfl) (fun _ _ _ h => h) (Or.inl ⟨by rfl, ?_⟩) (by assumption) ?_
      rotate_left
      · intro wS hSw; (try dsimp only at hSw); go_simp; try with_reducible rfl
      try simp only [Act.put, List.setIfInBounds_toArray, List.set_cons_zero, List.set_cons_succ]
      refine Zed.take (i := 12) (oi := ⟨some 69, _, _, _, _, _⟩) (v := ?_) rfl (by kernel_rfl) (by kernel_rfl) (by kernel_rfl) (by kernel_rfl) (fun _ _ _ h => h) (Or.inl ⟨by rfl, ?_⟩) (by assumption) ?_
      rotate_left
      · intro wS hSw; (try dsimp only at hSw); go_simp; try with_reducible rfl
      try simp only [Act.put, List.setIfInBounds_toArray, List.set_cons_zero, List.set_cons_succ]
      refine Zed.take (i := 14) (oi := ⟨some 71, _, _, _, _, _⟩) (v := ?_) rfl (by kernel_rfl) (by kernel_rfl) (by kernel_rfl) (by kernel_rfl) (fun _ _ _ h => h) (Or.inl ⟨by rfl, ?_⟩) (by assumption) ?_
      rotate_left
      · intro wS hSw; (try dsimp only at hSw); go_simp; try with_reducible rfl
      try simp only [Act.put, List.setIfInBounds_toArray, List.set_cons_zero, List.set_cons_succ]
      refine Zed.take (i := 15) (oi := ⟨some 72, _, _, _, _, _⟩) (v := ?_) rfl (by kernel_rfl) (by kernel_rfl) (by kernel_rfl) (by kernel_rfl) (fun _ _ _ h => h) (Or.inl ⟨by rfl, ?_⟩) (by assumption) ?_
      rotate_left
      · intro wS hSw; (try dsimp only at hSw); go_simp; try with_reducible rfl
      try simp only [Act.put, List.setIfInBounds_toArray, List.set_cons_zero, List.set_cons_succ]
      refine Zed.take (i := 16) (oi := ⟨some 73, _, _, _, _, _⟩) (v := ?_) rfl (by kernel_rfl) (by kernel_rfl) (by kernel_rfl) (by kernel_rfl) (fun _ _ _ h => h) (Or.inl ⟨by rfl, ?_⟩) (by assumption) ?_
      rotate_left
      · intro wS hSw; (try dsimp only at hSw); go_simp; try with_reducible rfl
      try simp only [Act.put, List.setIfInBounds_toArray, List.set_cons_zero, List.set_cons_succ]
      refine Zed.take (i := 17) (oi := ⟨some 74, _, _, _, _, _⟩) (v := ?_) rfl (by kernel_rfl) (by kernel_rfl) (by kernel_rfl) (by kernel_rfl) (fun _ _ _ h => h) (Or.inl ⟨by rfl, ?_⟩) (by assumption) ?_
      rotate_left
      · intro wS hSw; (try dsimp only at hSw); go_simp; try with_reducible rfl
      try simp only [Act.put, List.setIfInBounds_toArray, List.set_cons_zero, List.set_cons_succ]
      refine Zed.ready (rs := [5, 18]) (by kernel_rfl) (by simp) ?_
      refine Zeach.cons (o := ⟨some 62, _, _, _, _, _⟩) rfl (fun K hK => ?_) ?_
      · go_simp
        refine hK.out _ _ (HKS.out _ (by first | exact bd0 | exact bal bd0 _ | exact bal (bal bd0 _) _ | exact B1.out | exact B2.out | exact B3.out | exact bal B1.out _ | exact C1.out | exact C2.out | exact C3.out)) (fun hHeld => ?_)
        clear hK K
        try simp only [Act.put, List.setIfInBounds_toArray, List.set_cons_zero, List.set_cons_succ]
        refine Zed.ready (rs := [13, 18]) (by kernel_rfl) (by simp) ?_
        refine Zeach.cons (o := ⟨some 70, _, _, _, _, _⟩) rfl (fun K hK => ?_) ?_
        · refine step_append_run (.tmp 62) (.tmp 69) 43 _ _ _ HR1a.out rfl rfl (by simp [Act.eval, Act.put]) (by simp [Act.eval, Act.put]) ?_
          refine hK.out _ _ (HKS.out _ (by first | exact bd0 | exact bal bd0 _ | exact bal (bal bd0 _) _ | exact B1.out | exact B2.out | exact B3.out | exact bal B1.out _ | exact C1.out | exact C2.out | exact C3.out)) (fun hHeld => ?_)
          clear hK K
          try simp only [Act.put, List.setIfInBounds_toArray, List.set_cons_zero, List.set_cons_succ]
          refine Zed.ready (rs := [18]) (by kernel_rfl) (by simp) ?_
          refine Zeach.cons (o := ⟨some 75, _, _, _, _, _⟩) rfl (fun K hK => ?_) Zeach.nil
          go_simp
          refine hK.out _ _ (HKS.out _ (by first | exact bd0 | exact bal bd0 _ | exact bal (bal bd0 _) _ | exact B1.out | exact B2.out | exact B3.out | exact bal B1.out _ | exact C1.out | exact C2.out | exact C3.out)) (fun hHeld => ?_)
          clear hK K
          try simp only [Act.put, List.setIfInBounds_toArray, List.set_cons_zero, List.set_cons_succ]
          refine Zed.ready (rs := [19]) (by kernel_rfl) (by simp) ?_
          refine Zeach.cons (o := ⟨some 76, _, _, _, _, _⟩) rfl (fun K hK => ?_) Zeach.nil
          refine step_append_run (.tmp 70) (.tmp 75) 43 _ _ _ HR1b.out rfl rfl (by simp [Act.eval, Act.put]) (by simp [Act.eval, Act.put]) ?_
          refine hK.out _ _ (HKS.out _ (by first | exact bd0 | exact bal bd0 _ | exact bal (bal bd0 _) _ | exact B1.out | exact B2.out | exact B3.out | exact bal B1.out _ | exact C1.out | exact C2.out | exact C3.out)) (fun hHeld => ?_)
          clear hK K
          try simp only [Act.put, List.setIfInBounds_toArray, List.set_cons_zero, List.set_cons_succ]
          refine Zed.take (i := 20) (oi := ⟨some 77, _, _, _, _, _⟩) (v := ?_) rfl (by kernel_rfl) (by kernel_rfl) (by kernel_rfl) (by kernel_rfl) (fun _ _ _ h => h) (Or.inl ⟨by rfl, ?_⟩) (by assumption) ?_
          rotate_left
          · intro wS hSw; (try dsimp only at hSw); go_simp; try with_reducible rfl
          try simp only [Act.put, List.setIfInBounds_toArray, List.set_cons_zero, List.set_cons_succ]
          refine Zed.ready (rs := [21]) (by kernel_rfl) (by simp) ?_
          refine Zeach.last (o := ⟨none, _, _, _, _, _⟩) rfl (fun K hK => ?_)
          go_simp
          refine hK.out _ _ ?_
          clear hK K
          try simp only [Act.put, List.setIfInBounds_toArray, List.set_cons_zero, List.set_cons_succ]
          refine Zed.done (by kernel_rfl) ?_ _
          go_wp2_with fail
          go_roundw
          case rel => exact ⟨k + 1, by omega, by go_num, F1.out⟩
          case measure => simp [intOf]; omega
        refine Zeach.cons (o := ⟨some 75, _, _, _, _, _⟩) rfl (fun K hK => ?_) ?_
        · go_simp
          refine hK.out _ _ (HKS.out _ (by first | exact bd0 | exact bal bd0 _ | exact bal (bal bd0 _) _ | exact B1.out | exact B2.out | exact B3.out | exact bal B1.out _ | exact C1.out | exact C2.out | exact C3.out)) (fun hHeld => ?_)
          clear hK K
          try simp only [Act.put, List.setIfInBounds_toArray, List.set_cons_zero, List.set_cons_succ]
          refine Zed.ready (rs := [13]) (by kernel_rfl) (by simp) ?_
          refine Zeach.cons (o := ⟨some 70, _, _, _, _, _⟩) rfl (fun K hK => ?_) Zeach.nil
          refine step_append_run (.tmp 62) (.tmp 69) 43 _ _ _ HR2a.out rfl rfl (by simp [Act.eval, Act.put]) (by simp [Act.eval, Act.put]) ?_
          refine hK.out _ _ (HKS.out _ (by first | exact bd0 | exact bal bd0 _ | exact bal (bal bd0 _) _ | exact B1.out | exact B2.out | exact B3.out | exact bal B1.out _ | exact C1.out | exact C2.out | exact C3.out)) (fun hHeld => ?_)
          clear hK K
          try simp only [Act.put, List.setIfInBounds_toArray, List.set_cons_zero, List.set_cons_succ]
          refine Zed.ready (rs := [19]) (by kernel_rfl) (by simp) ?_
          refine Zeach.cons (o := ⟨some 76, _, _, _, _, _⟩) rfl (fun K hK => ?_) Zeach.nil
          refine step_append_run (.tmp 70) (.tmp 75) 43 _ _ _ HR2b.out rfl rfl (by simp [Act.eval, Act.put]) (by simp [Act.eval, Act.put]) ?_
          refine hK.out _ _ (HKS.out _ (by first | exact bd0 | exact bal bd0 _ | exact bal (bal bd0 _) _ | exact B1.out | exact B2.out | exact B3.out | exact bal B1.out _ | exact C1.out | exact C2.out | exact C3.out)) (fun hHeld => ?_)
          clear hK K
          try simp only [Act.put, List.setIfInBounds_toArray, List.set_cons_zero, List.set_cons_succ]
          refine Zed.take (i := 20) (oi := ⟨some 77, _, _, _, _, _⟩) (v := ?_) rfl (by kernel_rfl) (by kernel_rfl) (by kernel_rfl) (by kernel_rfl) (fun _ _ _ h => h) (Or.inl ⟨by rfl, ?_⟩) (by assumption) ?_
          rotate_left
          · intro wS hSw; (try dsimp only at hSw); go_simp; try with_reducible rfl
          try simp only [Act.put, List.setIfInBounds_toArray, List.set_cons_zero, List.set_cons_succ]
          refine Zed.ready (rs := [21]) (by kernel_rfl) (by simp) ?_
          refine Zeach.last (o := ⟨none, _, _, _, _, _⟩) rfl (fun K hK => ?_)
          go_simp
          refine hK.out _ _ ?_
          clear hK K
          try simp only [Act.put, List.setIfInBounds_toArray, List.set_cons_zero, List.set_cons_succ]
          refine Zed.done (by kernel_rfl) ?_ _
          go_wp2_with fail
          go_roundw
          case rel => exact ⟨k + 1, by omega, by go_num, F2.out⟩
          case measure => simp [intOf]; omega
        exact Zeach.nil
      refine Zeach.cons (o := ⟨some 75, _, _, _, _, _⟩) rfl (fun K hK => ?_) ?_
      · go_simp
        refine hK.out _ _ (HKS.out _ (by first | exact bd0 | exact bal bd0 _ | exact bal (bal bd0 _) _ | exact B1.out | exact B2.out | exact B3.out | exact bal B1.out _ | exact C1.out | exact C2.out | exact C3.out)) (fun hHeld => ?_)
        clear hK K
        try simp only [Act.put, List.setIfInBounds_toArray, List.set_cons_zero, List.set_cons_succ]
        refine Zed.ready (rs := [5]) (by kernel_rfl) (by simp) ?_
        refine Zeach.cons (o := ⟨some 62, _, _, _, _, _⟩) rfl (fun K hK => ?_) Zeach.nil
        go_simp
        refine hK.out _ _ (HKS.out _ (by first | exact bd0 | exact bal bd0 _ | exact bal (bal bd0 _) _ | exact B1.out | exact B2.out | exact B3.out | exact bal B1.out _ | exact C1.out | exact C2.out | exact C3.out)) (fun hHeld => ?_)
        clear hK K
        try simp only [Act.put, List.setIfInBounds_toArray, List.set_cons_zero, List.set_cons_succ]
        refine Zed.ready (rs := [13]) (by kernel_rfl) (by simp) ?_
        refine Zeach.cons (o := ⟨some 70, _, _, _, _, _⟩) rfl (fun K hK => ?_) Zeach.nil
        refine step_append_run (.tmp 62) (.tmp 69) 43 _ _ _ HR3a.out rfl rfl (by simp [Act.eval, Act.put]) (by simp [Act.eval, Act.put]) ?_
        refine hK.out _ _ (HKS.out _ (by first | exact bd0 | exact bal bd0 _ | exact bal (bal bd0 _) _ | exact B1.out | exact B2.out | exact B3.out | exact bal B1.out _ | exact C1.out | exact C2.out | exact C3.out)) (fun hHeld => ?_)
        clear hK K
        try simp only [Act.put, List.setIfInBounds_toArray, List.set_cons_zero, List.set_cons_succ]
        refine Zed.ready (rs := [19]) (by kernel_rfl) (by simp) ?_
        refine Zeach.cons (o := ⟨some 76, _, _, _, _, _⟩) rfl (fun K hK => ?_) Zeach.nil
        refine step_append_run (.tmp 70) (.tmp 75) 43 _ _ _ HR3b.out rfl rfl (by simp [Act.eval, Act.put]) (by simp [Act.eval, Act.put]) ?_
        refine hK.out _ _ (HKS.out _ (by first | exact bd0 | exact bal bd0 _ | exact bal (bal bd0 _) _ | exact B1.out | exact B2.out | exact B3.out | exact bal B1.out _ | exact C1.out | exact C2.out | exact C3.out)) (fun hHeld => ?_)
        clear hK K
        try simp only [Act.put, List.setIfInBounds_toArray, List.set_cons_zero, List.set_cons_succ]
        refine Zed.take (i := 20) (oi := ⟨some 77, _, _, _, _, _⟩) (v := ?_) rfl (by kernel_rfl) (by kernel_rfl) (by kernel_rfl) (by kernel_rfl) (fun _ _ _ h => h) (Or.inl ⟨by rfl, ?_⟩) (by assumption) ?_
        rotate_left
        · intro wS hSw; (try dsimp only at hSw); go_simp; try with_reducible rfl
        try simp only [Act.put, List.setIfInBounds_toArray, List.set_cons_zero, List.set_cons_succ]
        refine Zed.ready (rs := [21]) (by kernel_rfl) (by simp) ?_
        refine Zeach.last (o := ⟨none, _, _, _, _, _⟩) rfl (fun K hK => ?_)
        go_simp
        refine hK.out _ _ ?_
        clear hK K
        try simp only [Act.put, List.setIfInBounds_toArray, List.set_cons_zero, List.set_cons_succ]
        refine Zed.done (by kernel_rfl) ?_ _
        go_wp2_with fail
        go_roundw
        case rel => exact ⟨k + 1, by omega, by go_num, F3.out⟩
        case measure => simp [intOf]; omega
      exact Zeach.nil
    · obtain rfl : k = lst.length := by omega
      obtain ⟨hg2, Gk, hRB, hGk, hKp⟩ := hI
      rw [List.take_length] at hRB
      have HF := Lib.hid (HFIN.out wr ⟨⟨_, _, hRB.mono (fun j hj => by
          have hjl := hRB.1 j hj
          rcases hGk j hj with h | h
          · exact .inl h
          · exact .inr ⟨h, hjl⟩) (fun j hj => by
          rcases hj with hj | hj
          · exact Nat.lt_of_lt_of_le (HG.out.1 j hj) hKp.size
          · exact hj.2)⟩, hKp.mono (fun b _ h => h ▸ HG.out.2)⟩)
      clear hRB hGk hKp hg2
      go_wp2_with fail
      go_ret
      exact ⟨rfl, HF.out⟩
end Go.Proofs.Ytjipncpplpfobaa.Lb
