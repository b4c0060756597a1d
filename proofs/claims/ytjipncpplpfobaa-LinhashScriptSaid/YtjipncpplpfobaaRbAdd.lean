/- The document's Add of buckets, by its contract. -/
import Derived.Test.YtjipncpplpfobaaRb
import Derived.Test.YtjipncpplpfobaaBandStep
namespace Go.Proofs.Ytjipncpplpfobaa.Lb
open Go.RowKit K Hs
set_option linter.unusedVariables false
set_option linter.unusedSimpArgs false

theorem bal {w x : World} (h : Below w.heap.size w x) (o : Obj) : Below w.heap.size w (x.alloc o) := h.alloc h.size o
/-- append([]Item{}, l...): the run, told ahead. -/
theorem app1 (w wx : World) (hb : Below w.heap.size w wx) (sA : Nat) (hA : wx.ownsRow w.heap.size 54 2 (.slice (some ⟨sA, 0, none⟩) 0 0) 0 []) (A : Option Addr) (c k : Nat) (xs : List Value) (hr : Reads w w.heap.size 2 A k xs) (h1 : ∀ u ∈ xs, u.oneCell' = true) (hl : k ≤ 1099511627776) :
    ∃ A1 c1 w1, (Builtin.append_ #[43, 43] 43 #[.slice (some ⟨sA, 0, none⟩) 0 0, .slice A k c]).run Try.prog wx = .ok (.slice A1 k c1) w1 ∧ w1.ownsRow w.heap.size 54 2 (.slice A1 k c1) k xs ∧ Below w.heap.size w w1 ∧
      (∀ p v, p.block ≠ sA → wx.cell? p = some v → w1.cell? p = some v) ∧ wx.heap.size ≤ w1.heap.size := by
  obtain ⟨i0, hi, hz0, hz1, hz2⟩ := info_parts infoI
  obtain ⟨v1, w1, run1, o1, gr1, at1⟩ := run_append_any (P := Try.prog) wx w.heap.size 43 43 54 i0 _ 2 16 Try.underlying43 hi hz0 hz1 hz2 rfl (by decide) (.slice (some ⟨sA, 0, none⟩) 0 0) 0 [] hA w.heap.size A k c xs (hr.below hb)
    h1 (by unfold maxLen; omega) (by omega) hb.size
  rw [Nat.zero_add, List.nil_append] at o1
  obtain ⟨A1, c1, rfl, _, _⟩ := ownsRow_form o1
  refine ⟨A1, c1, w1, run1, o1, hb.grown gr1 hb.size (fun r hr2 => (hA.lt r hr2).1), fun p v hp hc => ?_, gr1.size⟩
  exact (World.cell?_of_block (w := wx) (gr1.block p.block (World.block_lt_of_cell? _ _ hc) (fun e => hp (by simpa [Value.ownBlock] using e)))).trans hc
/-- append(l, x): the run, told ahead. -/
theorem app2 (w w1 : World) (hb : Below w.heap.size w w1) (sC : Nat) (x : It) (A1 : Option Addr) (c1 : Nat) (l : List It) (n : Nat) (hn : n = l.length) (ho : w1.ownsRow w.heap.size 54 2 (.slice A1 n c1) n (itL l)) (k0 : w1.cell? ⟨sC, 0, none⟩ = some (.int .u32 x.1)) (k1 : w1.cell? ⟨sC, 1, none⟩ = some (.int .i64 x.2)) (hl : n ≤ 1099511627776) :
    ∃ A2 c2 w2, (Builtin.append_ #[43, 43] 43 #[.slice A1 n c1, .slice (some ⟨sC, 0, none⟩) 1 1]).run Try.prog w1 = .ok (.slice (some A2) (n + 1) c2) w2 ∧ w2.ownsRow w.heap.size 54 2 (.slice (some A2) (n + 1) c2) (n + 1) (itL (l ++ [x])) ∧ Below w.heap.size w w2 := by
  obtain ⟨i0, hi, hz0, hz1, hz2⟩ := info_parts infoI
  obtain ⟨v2, w2, run2, o2, gr2, _, at2⟩ := run_append_own_at (P := Try.prog) w1 w.heap.size 43 43 54 i0 _ 2 16 Try.underlying43 hi hz0 hz1 hz2 rfl (by decide) (.slice A1 n c1) n _ ho ⟨sC, 0, none⟩ 1 1 [.int .u32 x.1, .int .i64 x.2] rfl (fun j u hj => by
    rcases j with _ | _ | j
    · simp at hj; subst hj; simpa [Addr.add] using k0
    · simp at hj; subst hj; simpa [Addr.add] using k1
    · simp at hj) (by simp [Value.oneCell']) (by unfold maxLen; omega) (by omega) hb.size
  obtain ⟨g2, c2, rfl⟩ := ownsRow_succ o2
  exact ⟨_, c2, w2, run2, by rw [itL_append]; exact o2, hb.grown gr2 hb.size (fun r hr2 => (ho.lt r hr2).1)⟩
def Fin (w : World) (l : List It) (n : Nat) (A2 : Addr) (c2 : Nat) (w2 : World) : Prop := w2.ownsRow w.heap.size 54 2 (.slice (some A2) n c2) n (itL l) ∧ Below w.heap.size w w2
theorem lit_own (w : World) (x : World) (hb : Below w.heap.size w x) : (x.alloc (.cells #[] 54)).ownsRow w.heap.size 54 2 (.slice (some ⟨x.heap.size, 0, none⟩) 0 0) 0 [] :=
  ownsRow_base (World.ownsRow_lit (base := x.heap.size) (e := 54) (size := 2) x #[] 0 (Nat.le_refl _) (Nat.zero_le _) (by simp)) (fun r hr => by
    have : r = x.heap.size := by simpa [Value.ownBlock] using hr.symm
    rw [this]; exact hb.size)
/-- append(append([]Item{}, l...), x), in whatever order its parts are made. -/
theorem fresh_runs (w : World) (A : Option Addr) (c : Nat) (l : List It) (x : It) (n : Nat) (hn : n = l.length) (hr : Reads w w.heap.size 2 A n (itL l)) (hl : n ≤ 1000000) :
    (∃ A1 c1 w1 A2 c2 w2, (Builtin.append_ #[43, 43] 43 #[.slice (some ⟨w.heap.size, 0, none⟩) 0 0, .slice A n c]).run Try.prog (w.drew.alloc (.cells #[] 54)) = .ok (.slice A1 n c1) w1 ∧ Below w.heap.size w w1 ∧
      (Builtin.append_ #[43, 43] 43 #[.slice A1 n c1, .slice (some ⟨w1.heap.size, 0, none⟩) 1 1]).run Try.prog (w1.alloc (.cells #[.int .u32 x.1, .int .i64 x.2] 54)) = .ok (.slice (some A2) (n + 1) c2) w2 ∧ Fin w (l ++ [x]) (n + 1) A2 c2 w2) ∧
    (∃ A1 c1 w1 A2 c2 w2, (Builtin.append_ #[43, 43] 43 #[.slice (some ⟨w.heap.size, 0, none⟩) 0 0, .slice A n c]).run Try.prog ((w.drew.alloc (.cells #[] 54)).alloc (.cells #[.int .u32 x.1, .int .i64 x.2] 54)) = .ok (.slice A1 n c1) w1 ∧ Below w.heap.size w w1 ∧
      (Builtin.append_ #[43, 43] 43 #[.slice A1 n c1, .slice (some ⟨w.heap.size + 1, 0, none⟩) 1 1]).run Try.prog w1 = .ok (.slice (some A2) (n + 1) c2) w2 ∧ Fin w (l ++ [x]) (n + 1) A2 c2 w2) ∧
    (∃ A1 c1 w1 A2 c2 w2, (Builtin.append_ #[43, 43] 43 #[.slice (some ⟨w.heap.size + 1, 0, none⟩) 0 0, .slice A n c]).run Try.prog ((w.drew.alloc (.cells #[.int .u32 x.1, .int .i64 x.2] 54)).alloc (.cells #[] 54)) = .ok (.slice A1 n c1) w1 ∧ Below w.heap.size w w1 ∧
      (Builtin.append_ #[43, 43] 43 #[.slice A1 n c1, .slice (some ⟨w.heap.size, 0, none⟩) 1 1]).run Try.prog w1 = .ok (.slice (some A2) (n + 1) c2) w2 ∧ Fin w (l ++ [x]) (n + 1) A2 c2 w2) := by
  have bd0 : Below w.heap.size w w.drew := below_drew (Below.refl _ _)
  have h1 := itL_one l
  refine ⟨?_, ?_, ?_⟩
  · obtain ⟨A1, c1, w1, run1, o1, b1, _, _⟩ := app1 w _ (bal bd0 (.cells #[] 54)) w.heap.size (lit_own w w.drew bd0) A c n (itL l) hr h1 (by omega)
    have hX := Blk.new w1 54 #[.int .u32 x.1, .int .i64 x.2]
    obtain ⟨A2, c2, w2, run2, o2, b2⟩ := app2 w _ (bal b1 (.cells #[.int .u32 x.1, .int .i64 x.2] 54)) w1.heap.size x A1 c1 l n hn (o1.alloc _) (by rw [hX.cell]; rfl) (by rw [hX.cell]; rfl) (by omega)
    exact ⟨A1, c1, w1, A2, c2, w2, run1, b1, run2, o2, b2⟩
  · have hX := Blk.new (w.drew.alloc (.cells #[] 54)) 54 #[.int .u32 x.1, .int .i64 x.2]
    rw [World.size_alloc] at hX
    obtain ⟨A1, c1, w1, run1, o1, b1, k, _⟩ := app1 w _ (bal (bal bd0 (.cells #[] 54)) (.cells #[.int .u32 x.1, .int .i64 x.2] 54)) w.heap.size ((lit_own w w.drew bd0).alloc _) A c n (itL l) hr h1 (by omega)
    obtain ⟨A2, c2, w2, run2, o2, b2⟩ := app2 w w1 b1 (w.heap.size + 1) x A1 c1 l n hn o1 (k _ _ (by show w.heap.size + 1 ≠ _; omega) ((hX.cell 0).trans rfl)) (k _ _ (by show w.heap.size + 1 ≠ _; omega) ((hX.cell 1).trans rfl)) (by omega)
    exact ⟨A1, c1, w1, A2, c2, w2, run1, b1, run2, o2, b2⟩
  · have hX := (Blk.new w.drew 54 #[.int .u32 x.1, .int .i64 x.2]).alloc (.cells #[] 54)
    have hL := lit_own w (w.drew.alloc (.cells #[.int .u32 x.1, .int .i64 x.2] 54)) (bal bd0 _)
    rw [World.size_alloc] at hL
    obtain ⟨A1, c1, w1, run1, o1, b1, k, _⟩ := app1 w _ (bal (bal bd0 (.cells #[.int .u32 x.1, .int .i64 x.2] 54)) (.cells #[] 54)) (w.heap.size + 1) hL A c n (itL l) hr h1 (by omega)
    obtain ⟨A2, c2, w2, run2, o2, b2⟩ := app2 w w1 b1 w.heap.size x A1 c1 l n hn o1 (k _ _ (by show w.heap.size ≠ _; omega) ((hX.cell 0).trans rfl)) (k _ _ (by show w.heap.size ≠ _; omega) ((hX.cell 1).trans rfl)) (by omega)
    exact ⟨A1, c1, w1, A2, c2, w2, run1, b1, run2, o2, b2⟩
set_option maxRecDepth 100000 in
set_option maxHeartbeats 16000000 in
theorem radd_any {w : World} {G : Nat → Prop} {g least gr cap : Nat} {L : List (List It)} (hB : RB w G g least gr cap L) (h id : Int) (h0 : 0 ≤ h) (h1 : h ≤ 4294967295)
    (m1 : 1 ≤ L.length) (m2 : L.length ≤ 65536) (ht : tot L ≤ 65536) :
    Calls Try.prog 28 #[.pointer (some ⟨g, 0, none⟩), .int .u32 h, .int .i64 id] w fun e w' => e = .returned (.tuple #[.int .i64 (bk h L.length : Int), .int .i64 0]) ∧ RB w' (upG G w w') g least gr cap (addL L (bk h L.length) (h, id)) ∧ Keep G w w' := by
  have HLn := Lib.hid (rlen_any hB m2 ht)
  have hlt := bk_lt (h := h) m1 (Nat.le_trans m2 (by decide))
  obtain ⟨q0, q1, f1, g1, g2, n1, n2, hne⟩ := hB.cells
  obtain ⟨m, hm⟩ : ∃ m, L.length = m := ⟨_, rfl⟩
  have HOF := Lib.hid (rof_any g gr m cap h w (by rw [← hm]; exact q1) h0 h1 (by omega) (by omega))
  rw [← hm] at HOF
  obtain ⟨n, hn⟩ : ∃ n, bk h L.length = n := ⟨_, rfl⟩
  rw [hn] at hlt HOF ⊢
  obtain ⟨l, hll⟩ : ∃ l, L[n]? = some l := ⟨_, List.getElem?_eq_getElem hlt⟩
  obtain ⟨A, c, hcell, hfz, hown, hblk, hA⟩ := hB.2.2.2.spot hll
  have hlen : l.length ≤ 65536 := by have := tot_ge (List.mem_of_getElem? hll); omega
  obtain ⟨⟨A1, c1, w1, A2, c2, w2, r1a, b1, r1b, fin1⟩, ⟨A3, c3, w3, A4, c4, w4, r2a, b2, r2b, fin2⟩, A5, c5, w5, A6, c6, w6, r3a, b3, r3b, fin3⟩ := fresh_runs w A c l (h, id) l.length rfl (Reads.of_own hown) (by omega)
  have HR1a := Lib.hid r1a; have HR1b := Lib.hid r1b; have HR2a := Lib.hid r2a; have HR2b := Lib.hid r2b; have HR3a := Lib.hid r3a; have HR3b := Lib.hid r3b
  have B1 := Lib.hid b1; have B2 := Lib.hid b2; have B3 := Lib.hid b3
  have C1 := Lib.hid fin1.2; have C2 := Lib.hid fin2.2; have C3 := Lib.hid fin3.2
  have e1 : (l ++ [(h, id)]).length = l.length + 1 := by simp
  have hEL : L.set n (l ++ [(h, id)]) = addL L n (h, id) := (addL_at hll).symm
  have F1 := Lib.hid (hEL ▸ hB.fresh hll fin1.2 fin1.1 e1.symm)
  have F2 := Lib.hid (hEL ▸ hB.fresh hll fin2.2 fin2.1 e1.symm)
  have F3 := Lib.hid (hEL ▸ hB.fresh hll fin3.2 fin3.1 e1.symm)
  rw [hm] at q1
  have HKS := Lib.hid (show ∀ wx, Below w.heap.size w wx → wx.cell? ⟨g, 1, none⟩ = some (.slice (some ⟨gr, 0, none⟩) m cap) ∧ wx.cell? ⟨gr, n, none⟩ = some (.slice A l.length c) from fun wx hb => ⟨(hb.cell (p := ⟨g, 1, none⟩) g1).trans q1, (hb.cell (p := ⟨gr, n, none⟩) g2).trans hcell⟩)
  have HFZ := Lib.hid (show ∀ wx, Below w.heap.size w wx → wx.cell? ⟨gr, n, none⟩ = some (.slice A l.length c) ∧ wx.frozen? ⟨gr, n, none⟩ = false from fun wx hb => ⟨(hb.cell (p := ⟨gr, n, none⟩) g2).trans hcell, (World.frozen?_of_block (w := w) (hb.block gr g2)).trans hfz⟩)
  obtain ⟨y1, y2⟩ := HFZ.out _ C1.out
  obtain ⟨y3, y4⟩ := HFZ.out _ C2.out
  obtain ⟨y5, y6⟩ := HFZ.out _ C3.out
  have bd0 : Below w.heap.size w w.drew := below_drew (Below.refl _ _)
  have hnm : (n : Int) < (m : Int) := by omega
  have hnz : (0 : Int) ≤ (n : Int) := by omega
  have htb : decide ((16777216 : Int) ≤ (tot L : Int)) = false := decide_eq_false (by omega)
  obtain ⟨t, htt⟩ : ∃ t, tot L = t := ⟨_, rfl⟩
  rw [htt] at HLn htb
  clear hB r1a r1b r2a r2b r3a r3b b1 b2 b3 fin1 fin2 fin3 hown hblk hll hA n1 n2 h0 h1 m1 m2 ht htt hm hn hEL e1 hlt q0 f1 hlen
  go_enter Try.func28, Try.ntmps28
  go_wp2_with (first
    | (go_at_call 35; refine HLn.out.mono ?_; rintro e w' ⟨rfl, rfl⟩)
    | (go_at_call 44; refine HOF.out.mono ?_; rintro e w' ⟨rfl, rfl⟩)
    | fail)
  refine Zed.begin (S := fun wx => wx.cell? ⟨g, 1, none⟩ = some (.slice (some ⟨gr, 0, none⟩) m cap) ∧ wx.cell? ⟨gr, n, none⟩ = some (.slice A l.length c)) (z := 20) (by kernel_rfl) (HKS.out _ bd0) (fun hHeld => ?_)
  refine Zed.take (i := 0) (oi := ⟨some 15, _, _, _, _, _⟩) (v := ?_) rfl (by kernel_rfl) (by kernel_rfl) (by kernel_rfl) (by kernel_rfl) (fun _ _ _ h => h) (Or.inl ⟨by rfl, ?_⟩) (by assumption) ?_
  rotate_left
  · intro wS hSw; (try dsimp only at hSw); go_simp; try with_reducible rfl
  try simp only [Act.put, List.setIfInBounds_toArray, List.set_cons_zero, List.set_cons_succ]
  refine Zed.take (i := 1) (oi := ⟨some 16, _, _, _, _, _⟩) (v := ?_) rfl (by kernel_rfl) (by kernel_rfl) (by kernel_rfl) (by kernel_rfl) (fun _ _ _ h => h) (Or.inl ⟨by rfl, ?_⟩) (by assumption) ?_
  rotate_left
  · intro wS hSw; (try dsimp only at hSw); go_simp; try with_reducible rfl
  try simp only [Act.put, List.setIfInBounds_toArray, List.set_cons_zero, List.set_cons_succ]
  refine Zed.take (i := 2) (oi := ⟨some 17, _, _, _, _, _⟩) (v := ?_) rfl (by kernel_rfl) (by kernel_rfl) (by kernel_rfl) (by kernel_rfl) (fun _ _ _ h => h) (Or.inl ⟨by rfl, ?_⟩) (by assumption) ?_
  rotate_left
  · intro wS hSw; (try dsimp only at hSw); go_simp; try with_reducible rfl
  try simp only [Act.put, List.setIfInBounds_toArray, List.set_cons_zero, List.set_cons_succ]
  refine Zed.take (i := 3) (oi := ⟨some 18, _, _, _, _, _⟩) (v := ?_) rfl (by kernel_rfl) (by kernel_rfl) (by kernel_rfl) (by kernel_rfl) (fun _ _ _ h => h) (Or.inl ⟨by rfl, ?_⟩) (by assumption) ?_
  rotate_left
  · intro wS hSw; (try dsimp only at hSw); go_simp; try with_reducible rfl
  try simp only [Act.put, List.setIfInBounds_toArray, List.set_cons_zero, List.set_cons_succ]
  refine Zed.take (i := 4) (oi := ⟨some 19, _, _, _, _, _⟩) (v := ?_) rfl (by kernel_rfl) (by kernel_rfl) (by kernel_rfl) (by kernel_rfl) (fun _ _ _ h => h) (Or.inl ⟨by rfl, ?_⟩) (by assumption) ?_
  rotate_left
  · intro wS hSw; (try dsimp only at hSw); go_simp; try with_reducible rfl
  try simp only [Act.put, List.setIfInBounds_toArray, List.set_cons_zero, List.set_cons_succ]
  refine Zed.take (i := 6) (oi := ⟨some 21, _, _, _, _, _⟩) (v := ?_) rfl (by kernel_rfl) (by kernel_rfl) (by kernel_rfl) (by kernel_rfl) (fun _ _ _ h => h) (Or.inl ⟨by rfl, ?_⟩) (by assumption) ?_
  rotate_left
  · intro wS hSw; (try dsimp only at hSw); go_simp; try with_reducible rfl
  try simp only [Act.put, List.setIfInBounds_toArray, List.set_cons_zero, List.set_cons_succ]
  refine Zed.take (i := 7) (oi := ⟨some 22, _, _, _, _, _⟩) (v := ?_) rfl (by kernel_rfl) (by kernel_rfl) (by kernel_rfl) (by kernel_rfl) (fun _ _ _ h => h) (Or.inl ⟨by rfl, ?_⟩) (by assumption) ?_
  rotate_left
  · intro wS hSw; (try dsimp only at hSw); go_simp; try with_reducible rfl
  try simp only [Act.put, List.setIfInBounds_toArray, List.set_cons_zero, List.set_cons_succ]
  refine Zed.take (i := 8) (oi := ⟨some 23, _, _, _, _, _⟩) (v := ?_) rfl (by kernel_rfl) (by kernel_rfl) (by kernel_rfl) (by kernel_rfl) (fun _ _ _ h => h) (Or.inl ⟨by rfl, ?_⟩) (by assumption) ?_
  rotate_left
  · intro wS hSw; (try dsimp only at hSw); go_simp; try with_reducible rfl
  try simp only [Act.put, List.setIfInBounds_toArray, List.set_cons_zero, List.set_cons_succ]
  refine Zed.take (i := 9) (oi := ⟨some 24, _, _, _, _, _⟩) (v := ?_) rfl (by kernel_rfl) (by kernel_rfl) (by kernel_rfl) (by kernel_rfl) (fun _ _ _ h => h) (Or.inl ⟨by rfl, ?_⟩) (by assumption) ?_
  rotate_left
  · intro wS hSw; (try dsimp only at hSw); go_simp; try with_reducible rfl
  try simp only [Act.put, List.setIfInBounds_toArray, List.set_cons_zero, List.set_cons_succ]
  refine Zed.take (i := 10) (oi := ⟨some 25, _, _, _, _, _⟩) (v := ?_) rfl (by kernel_rfl) (by kernel_rfl) (by kernel_rfl) (by kernel_rfl) (fun _ _ _ h => h) (Or.inl ⟨by rfl, ?_⟩) (by assumption) ?_
  rotate_left
  · intro wS hSw; (try dsimp only at hSw); go_simp; try with_reducible rfl
  try simp only [Act.put, List.setIfInBounds_toArray, List.set_cons_zero, List.set_cons_succ]
  refine Zed.take (i := 11) (oi := ⟨some 26, _, _, _, _, _⟩) (v := ?_) rfl (by kernel_rfl) (by kernel_rfl) (by kernel_rfl) (by kernel_rfl) (fun _ _ _ h => h) (Or.inl ⟨by rfl, ?_⟩) (by assumption) ?_
  rotate_left
  · intro wS hSw; (try dsimp only at hSw); go_simp; try with_reducible rfl
  try simp only [Act.put, List.setIfInBounds_toArray, List.set_cons_zero, List.set_cons_succ]
  refine Zed.take (i := 12) (oi := ⟨some 27, _, _, _, _, _⟩) (v := ?_) rfl (by kernel_rfl) (by kernel_rfl) (by kernel_rfl) (by kernel_rfl) (fun _ _ _ h => h) (Or.inl ⟨by rfl, ?_⟩) (by assumption) ?_
  rotate_left
  · intro wS hSw; (try dsimp only at hSw); go_simp; try with_reducible rfl
  try simp only [Act.put, List.setIfInBounds_toArray, List.set_cons_zero, List.set_cons_succ]
  refine Zed.take (i := 14) (oi := ⟨some 29, _, _, _, _, _⟩) (v := ?_) rfl (by kernel_rfl) (by kernel_rfl) (by kernel_rfl) (by kernel_rfl) (fun _ _ _ h => h) (Or.inl ⟨by rfl, ?_⟩) (by assumption) ?_
  rotate_left
  · intro wS hSw; (try dsimp only at hSw); go_simp; try with_reducible rfl
  try simp only [Act.put, List.setIfInBounds_toArray, List.set_cons_zero, List.set_cons_succ]
  refine Zed.take (i := 15) (oi := ⟨some 30, _, _, _, _, _⟩) (v := ?_) rfl (by kernel_rfl) (by kernel_rfl) (by kernel_rfl) (by kernel_rfl) (fun _ _ _ h => h) (Or.inl ⟨by rfl, ?_⟩) (by assumption) ?_
  rotate_left
  · intro wS hSw; (try dsimp only at hSw); go_simp; try with_reducible rfl
  try simp only [Act.put, List.setIfInBounds_toArray, List.set_cons_zero, List.set_cons_succ]
  refine Zed.take (i := 16) (oi := ⟨some 31, _, _, _, _, _⟩) (v := ?_) rfl (by kernel_rfl) (by kernel_rfl) (by kernel_rfl) (by kernel_rfl) (fun _ _ _ h => h) (Or.inl ⟨by rfl, ?_⟩) (by assumption) ?_
  rotate_left
  · intro wS hSw; (try dsimp only at hSw); go_simp; try with_reducible rfl
  try simp only [Act.put, List.setIfInBounds_toArray, List.set_cons_zero, List.set_cons_succ]
  refine Zed.ready (rs := [5, 17]) (by kernel_rfl) (by simp) ?_
  refine Zeach.cons (o := ⟨some 20, _, _, _, _, _⟩) rfl (fun K hK => ?_) ?_
  · go_simp
    refine hK.out _ _ (HKS.out _ (by first | exact bd0 | exact bal bd0 _ | exact bal (bal bd0 _) _ | exact B1.out | exact B2.out | exact B3.out | exact bal B1.out _ | exact C1.out | exact C2.out | exact C3.out)) (fun hHeld => ?_)
    clear hK K
    try simp only [Act.put, List.setIfInBounds_toArray, List.set_cons_zero, List.set_cons_succ]
    refine Zed.ready (rs := [13, 17]) (by kernel_rfl) (by simp) ?_
    refine Zeach.cons (o := ⟨some 28, _, _, _, _, _⟩) rfl (fun K hK => ?_) ?_
    · refine step_append_run (.tmp 20) (.tmp 27) 43 _ _ _ HR1a.out rfl rfl (by simp [Act.eval, Act.put]) (by simp [Act.eval, Act.put]) ?_
      refine hK.out _ _ (HKS.out _ (by first | exact bd0 | exact bal bd0 _ | exact bal (bal bd0 _) _ | exact B1.out | exact B2.out | exact B3.out | exact bal B1.out _ | exact C1.out | exact C2.out | exact C3.out)) (fun hHeld => ?_)
      clear hK K
      try simp only [Act.put, List.setIfInBounds_toArray, List.set_cons_zero, List.set_cons_succ]
      refine Zed.ready (rs := [17]) (by kernel_rfl) (by simp) ?_
      refine Zeach.cons (o := ⟨some 32, _, _, _, _, _⟩) rfl (fun K hK => ?_) Zeach.nil
      go_simp
      refine hK.out _ _ (HKS.out _ (by first | exact bd0 | exact bal bd0 _ | exact bal (bal bd0 _) _ | exact B1.out | exact B2.out | exact B3.out | exact bal B1.out _ | exact C1.out | exact C2.out | exact C3.out)) (fun hHeld => ?_)
      clear hK K
      try simp only [Act.put, List.setIfInBounds_toArray, List.set_cons_zero, List.set_cons_succ]
      refine Zed.ready (rs := [18]) (by kernel_rfl) (by simp) ?_
      refine Zeach.cons (o := ⟨some 33, _, _, _, _, _⟩) rfl (fun K hK => ?_) Zeach.nil
      refine step_append_run (.tmp 28) (.tmp 32) 43 _ _ _ HR1b.out rfl rfl (by simp [Act.eval, Act.put]) (by simp [Act.eval, Act.put]) ?_
      refine hK.out _ _ (HKS.out _ (by first | exact bd0 | exact bal bd0 _ | exact bal (bal bd0 _) _ | exact B1.out | exact B2.out | exact B3.out | exact bal B1.out _ | exact C1.out | exact C2.out | exact C3.out)) (fun hHeld => ?_)
      clear hK K
      try simp only [Act.put, List.setIfInBounds_toArray, List.set_cons_zero, List.set_cons_succ]
      refine Zed.take (i := 19) (oi := ⟨some 34, _, _, _, _, _⟩) (v := ?_) rfl (by kernel_rfl) (by kernel_rfl) (by kernel_rfl) (by kernel_rfl) (fun _ _ _ h => h) (Or.inl ⟨by rfl, ?_⟩) (by assumption) ?_
      rotate_left
      · intro wS hSw; (try dsimp only at hSw); go_simp; try with_reducible rfl
      try simp only [Act.put, List.setIfInBounds_toArray, List.set_cons_zero, List.set_cons_succ]
      refine Zed.ready (rs := [20]) (by kernel_rfl) (by simp) ?_
      refine Zeach.last (o := ⟨none, _, _, _, _, _⟩) rfl (fun K hK => ?_)
      go_simp
      refine hK.out _ _ ?_
      clear hK K
      try simp only [Act.put, List.setIfInBounds_toArray, List.set_cons_zero, List.set_cons_succ]
      refine Zed.done (by kernel_rfl) ?_ _
      go_wp2_with fail
      go_ret2
      exact ⟨rfl, F1.out⟩
    refine Zeach.cons (o := ⟨some 32, _, _, _, _, _⟩) rfl (fun K hK => ?_) ?_
    · go_simp
      refine hK.out _ _ (HKS.out _ (by first | exact bd0 | exact bal bd0 _ | exact bal (bal bd0 _) _ | exact B1.out | exact B2.out | exact B3.out | exact bal B1.out _ | exact C1.out | exact C2.out | exact C3.out)) (fun hHeld => ?_)
      clear hK K
      try simp only [Act.put, List.setIfInBounds_toArray, List.set_cons_zero, List.set_cons_succ]
      refine Zed.ready (rs := [13]) (by kernel_rfl) (by simp) ?_
      refine Zeach.cons (o := ⟨some 28, _, _, _, _, _⟩) rfl (fun K hK => ?_) Zeach.nil
      refine step_append_run (.tmp 20) (.tmp 27) 43 _ _ _ HR2a.out rfl rfl (by simp [Act.eval, Act.put]) (by simp [Act.eval, Act.put]) ?_
      refine hK.out _ _ (HKS.out _ (by first | exact bd0 | exact bal bd0 _ | exact bal (bal bd0 _) _ | exact B1.out | exact B2.out | exact B3.out | exact bal B1.out _ | exact C1.out | exact C2.out | exact C3.out)) (fun hHeld => ?_)
      clear hK K
      try simp only [Act.put, List.setIfInBounds_toArray, List.set_cons_zero, List.set_cons_succ]
      refine Zed.ready (rs := [18]) (by kernel_rfl) (by simp) ?_
      refine Zeach.cons (o := ⟨some 33, _, _, _, _, _⟩) rfl (fun K hK => ?_) Zeach.nil
      refine step_append_run (.tmp 28) (.tmp 32) 43 _ _ _ HR2b.out rfl rfl (by simp [Act.eval, Act.put]) (by simp [Act.eval, Act.put]) ?_
      refine hK.out _ _ (HKS.out _ (by first | exact bd0 | exact bal bd0 _ | exact bal (bal bd0 _) _ | exact B1.out | exact B2.out | exact B3.out | exact bal B1.out _ | exact C1.out | exact C2.out | exact C3.out)) (fun hHeld => ?_)
      clear hK K
      try simp only [Act.put, List.setIfInBounds_toArray, List.set_cons_zero, List.set_cons_succ]
      refine Zed.take (i := 19) (oi := ⟨some 34, _, _, _, _, _⟩) (v := ?_) rfl (by kernel_rfl) (by kernel_rfl) (by kernel_rfl) (by kernel_rfl) (fun _ _ _ h => h) (Or.inl ⟨by rfl, ?_⟩) (by assumption) ?_
      rotate_left
      · intro wS hSw; (try dsimp only at hSw); go_simp; try with_reducible rfl
      try simp only [Act.put, List.setIfInBounds_toArray, List.set_cons_zero, List.set_cons_succ]
      refine Zed.ready (rs := [20]) (by kernel_rfl) (by simp) ?_
      refine Zeach.last (o := ⟨none, _, _, _, _, _⟩) rfl (fun K hK => ?_)
      go_simp
      refine hK.out _ _ ?_
      clear hK K
      try simp only [Act.put, List.setIfInBounds_toArray, List.set_cons_zero, List.set_cons_succ]
      refine Zed.done (by kernel_rfl) ?_ _
      go_wp2_with fail
      go_ret2
      exact ⟨rfl, F2.out⟩
    exact Zeach.nil
  refine Zeach.cons (o := ⟨some 32, _, _, _, _, _⟩) rfl (fun K hK => ?_) ?_
  · go_simp
    refine hK.out _ _ (HKS.out _ (by first | exact bd0 | exact bal bd0 _ | exact bal (bal bd0 _) _ | exact B1.out | exact B2.out | exact B3.out | exact bal B1.out _ | exact C1.out | exact C2.out | exact C3.out)) (fun hHeld => ?_)
    clear hK K
    try simp only [Act.put, List.setIfInBounds_toArray, List.set_cons_zero, List.set_cons_succ]
    refine Zed.ready (rs := [5]) (by kernel_rfl) (by simp) ?_
    refine Zeach.cons (o := ⟨some 20, _, _, _, _, _⟩) rfl (fun K hK => ?_) Zeach.nil
    go_simp
    refine hK.out _ _ (HKS.out _ (by first | exact bd0 | exact bal bd0 _ | exact bal (bal bd0 _) _ | exact B1.out | exact B2.out | exact B3.out | exact bal B1.out _ | exact C1.out | exact C2.out | exact C3.out)) (fun hHeld => ?_)
    clear hK K
    try simp only [Act.put, List.setIfInBounds_toArray, List.set_cons_zero, List.set_cons_succ]
    refine Zed.ready (rs := [13]) (by kernel_rfl) (by simp) ?_
    refine Zeach.cons (o := ⟨some 28, _, _, _, _, _⟩) rfl (fun K hK => ?_) Zeach.nil
    refine step_append_run (.tmp 20) (.tmp 27) 43 _ _ _ HR3a.out rfl rfl (by simp [Act.eval, Act.put]) (by simp [Act.eval, Act.put]) ?_
    refine hK.out _ _ (HKS.out _ (by first | exact bd0 | exact bal bd0 _ | exact bal (bal bd0 _) _ | exact B1.out | exact B2.out | exact B3.out | exact bal B1.out _ | exact C1.out | exact C2.out | exact C3.out)) (fun hHeld => ?_)
    clear hK K
    try simp only [Act.put, List.setIfInBounds_toArray, List.set_cons_zero, List.set_cons_succ]
    refine Zed.ready (rs := [18]) (by kernel_rfl) (by simp) ?_
    refine Zeach.cons (o := ⟨some 33, _, _, _, _, _⟩) rfl (fun K hK => ?_) Zeach.nil
    refine step_append_run (.tmp 28) (.tmp 32) 43 _ _ _ HR3b.out rfl rfl (by simp [Act.eval, Act.put]) (by simp [Act.eval, Act.put]) ?_
    refine hK.out _ _ (HKS.out _ (by first | exact bd0 | exact bal bd0 _ | exact bal (bal bd0 _) _ | exact B1.out | exact B2.out | exact B3.out | exact bal B1.out _ | exact C1.out | exact C2.out | exact C3.out)) (fun hHeld => ?_)
    clear hK K
    try simp only [Act.put, List.setIfInBounds_toArray, List.set_cons_zero, List.set_cons_succ]
    refine Zed.take (i := 19) (oi := ⟨some 34, _, _, _, _, _⟩) (v := ?_) rfl (by kernel_rfl) (by kernel_rfl) (by kernel_rfl) (by kernel_rfl) (fun _ _ _ h => h) (Or.inl ⟨by rfl, ?_⟩) (by assumption) ?_
    rotate_left
    · intro wS hSw; (try dsimp only at hSw); go_simp; try with_reducible rfl
    try simp only [Act.put, List.setIfInBounds_toArray, List.set_cons_zero, List.set_cons_succ]
    refine Zed.ready (rs := [20]) (by kernel_rfl) (by simp) ?_
    refine Zeach.last (o := ⟨none, _, _, _, _, _⟩) rfl (fun K hK => ?_)
    go_simp
    refine hK.out _ _ ?_
    clear hK K
    try simp only [Act.put, List.setIfInBounds_toArray, List.set_cons_zero, List.set_cons_succ]
    refine Zed.done (by kernel_rfl) ?_ _
    go_wp2_with fail
    go_ret2
    exact ⟨rfl, F3.out⟩
  exact Zeach.nil
end Go.Proofs.Ytjipncpplpfobaa.Lb
