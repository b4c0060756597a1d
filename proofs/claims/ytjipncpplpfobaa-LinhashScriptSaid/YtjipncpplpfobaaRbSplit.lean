/- The document's Split of buckets, by its contract. -/
import Derived.Test.YtjipncpplpfobaaRbRem
namespace Go.Proofs.Ytjipncpplpfobaa.Lb
open Go.RowKit K Hs
set_option linter.unusedVariables false
set_option linter.unusedSimpArgs false

section
variable {w wr : World} {G Gk : Nat → Prop} {g least gr cap : Nat} {L Lk : List (List It)} {l : List It}
/-- An item is put behind a bucket's others. -/
theorem RB.put {n : Nat} {x : It} (hB : RB wr Gk g least gr cap Lk) (hn : Lk[n]? = some l) (hl : l.length ≤ 1099511627776) :
    ∃ Am nm cm g1 c1 w1, wr.cell? ⟨gr, n, none⟩ = some (.slice Am nm cm) ∧
      (Builtin.append_ #[43, 43] 43 #[.slice Am nm cm, .slice (some ⟨wr.heap.size, 0, none⟩) 1 1]).run Try.prog (wr.drew.alloc (.cells #[.int .u32 x.1, .int .i64 x.2] 54)) = .ok (.slice (some ⟨g1, 0, none⟩) (nm + 1) c1) w1 ∧
      (w1.cell? ⟨g, 1, none⟩ = some (.slice (some ⟨gr, 0, none⟩) Lk.length cap) ∧ w1.cell? ⟨gr, n, none⟩ = some (.slice Am nm cm) ∧ w1.frozen? ⟨gr, n, none⟩ = false) ∧
      (∀ p v, p.block < wr.heap.size → ¬ Gk p.block → wr.cell? p = some v → w1.cell? p = some v) ∧
      (∃ Gn, RB (w1.setCell ⟨gr, n, none⟩ (.slice (some ⟨g1, 0, none⟩) (nm + 1) c1)) Gn g least gr cap (addL Lk n x) ∧ (∀ j, Gn j → Gk j ∨ wr.heap.size ≤ j) ∧ Keep Gk wr (w1.setCell ⟨gr, n, none⟩ (.slice (some ⟨g1, 0, none⟩) (nm + 1) c1))) := by
  obtain ⟨Am, cm, s1, s2, s3, s4, _⟩ := hB.2.2.2.spot hn
  obtain ⟨q0, q1, f1, g1', g2', n1, n2, hneg⟩ := hB.cells
  obtain ⟨g1, c1, w1, hrun, hown, hkk, hat, hz, _⟩ := item_run wr wr.drew Am cm l x s3 hl ⟨rfl, rfl, rfl, rfl⟩
  have hng : (Value.slice Am l.length cm).ownBlock ≠ some g := hB.row_ne s3
  have hngr : (Value.slice Am l.length cm).ownBlock ≠ some gr := fun e => (s4 _ e).2.2 rfl
  have e1 : (l ++ [x]).length = l.length + 1 := by simp
  have hS := hB.setG hn s1 hkk hown (fun r hr => by
    rcases hat r hr with h | h
    · exact .inl h
    · exact .inr (fun hg => by have := hB.1 r hg; omega))
  rw [e1, ← addL_at hn] at hS
  refine ⟨Am, _, cm, g1, c1, w1, s1, hrun, ⟨(hkk.cell (p := ⟨g, 1, none⟩) g1' hng).trans q1, (hkk.cell (p := ⟨gr, n, none⟩) g2' hngr).trans s1, (hkk.frozen (p := ⟨gr, n, none⟩) g2' hngr).trans s2⟩, fun p v hp hg hc => (hkk.cell hp (fun h => hg (s4 _ h).1)).trans hc, ⟨_, hS.1, fun j hj => ?_, hS.2⟩⟩
  rcases hj with hj | hj
  · exact .inl hj
  · rw [e1] at hat
    rcases hat j hj with h | h
    · exact .inl (s4 j h).1
    · exact .inr h
end
def rsplitL (L : List (List It)) : List (List It) := putAll (List.replicate (L.length + 1) []) L.flatten
def RsI (w : World) (g least gr2 cap2 M : Nat) (its : List It) (wr : World) : Prop :=
  ∃ Gk : Nat → Prop, RB wr Gk g least gr2 cap2 (putAll (List.replicate M []) its) ∧ (∀ j, Gk j → j = g ∨ w.heap.size ≤ j) ∧ Keep (fun k => k = g) w wr
theorem rep_len (M : Nat) (its : List It) : (putAll (List.replicate M []) its).length = M := by rw [putAll_len]; simp
theorem keep_flat {L : List (List It)} {i : Nat} {l : List It} (h : L[i]? = some l) : (L.take (i + 1)).flatten = (L.take i).flatten ++ l := by
  rw [List.take_add_one, h, List.flatten_append]; simp
set_option maxRecDepth 100000 in
set_option maxHeartbeats 16000000 in
theorem rsplit_any {w : World} {G : Nat → Prop} {g least gr cap : Nat} {L : List (List It)} (hB : RB w G g least gr cap L) (m1 : 1 ≤ L.length) (m2 : L.length ≤ 65535) (hl : ∀ l ∈ L, l.length ≤ 65536) (hh : ∀ l ∈ L, ∀ x ∈ l, 0 ≤ x.1 ∧ x.1 ≤ 4294967295) (hp : ∀ its, its <+: L.flatten → ∀ l ∈ putAll (List.replicate (L.length + 1) []) its, l.length ≤ 1099511627776) :
    Calls Try.prog 33 #[.pointer (some ⟨g, 0, none⟩)] w fun e w' => e = .returned (.int .i64 0) ∧ (∃ gr' cap', RB w' (upG G w w') g least gr' cap' (rsplitL L)) ∧ Keep G w w' := by
  obtain ⟨q0, q1, f1, g1, g2, n1, n2, hne⟩ := hB.cells
  have HRws := Lib.hid hB.2.2.2
  obtain ⟨m, hm⟩ : ∃ m, L.length = m := ⟨_, rfl⟩
  have HMK := fun w => run_make_row' (P := Try.prog) 37 43 (.slice none 0 0) 24 Try.underlying37 infoII rfl .i64 .i64 (m + 1) (by omega) (by omega) w
  have e0 : madeCells #[Value.slice none 0 0] (m + 1) = (List.replicate (m + 1) (Value.slice none 0 0)).toArray := by
    apply Array.ext'
    rw [toList_madeCells_one]
  have hmk : ∀ w, (Instr.makeSlice 37 (.int .i64 ((m : Int) + 1)) (.int .i64 ((m : Int) + 1))).run Try.prog w = .ok (.slice (some ⟨w.heap.size, 0, none⟩) (m + 1) (m + 1)) (w.alloc (.cells (List.replicate (m + 1) (Value.slice none 0 0)).toArray 43)) := fun w => by
    rw [← e0]; exact HMK w
  clear HMK e0
  obtain ⟨cs, hcs⟩ : ∃ cs, (List.replicate (m + 1) (Value.slice none 0 0)).toArray = cs := ⟨_, rfl⟩
  have hRm := Rws.make w (m + 1) (by unfold maxLen; omega)
  rw [hcs] at hmk hRm
  obtain ⟨W2, hW2⟩ : ∃ W2, (w.alloc (.cells cs 43)).setCell ⟨g, 1, none⟩ (.slice (some ⟨w.heap.size, 0, none⟩) (m + 1) (m + 1)) = W2 := ⟨_, rfl⟩
  have hBa := hB.2.2.1.alloc (.cells cs 43)
  have hks : Keep (fun k => k = g) (w.alloc (.cells cs 43)) W2 := by rw [← hW2]; exact (Keep.refl (fun k => k = g) _).setCell (p := ⟨g, 1, none⟩) (.inl rfl) _
  have HS0 := Lib.hid (show RsI w g least w.heap.size (m + 1) (m + 1) [] W2 from by
    refine ⟨fun k => k = g ∨ k = w.heap.size, ⟨fun k hk => ?_, .inl rfl, ?_, (hRm.keep hks (fun r hr => by omega)).mono (fun k hk => .inr hk)⟩, fun j hj => by omega, ?_⟩
    · have hz : W2.heap.size = w.heap.size + 1 := by rw [← hW2]; simp [World.setCell]
      omega
    · have := hBa.set_ 1 (.slice (some ⟨w.heap.size, 0, none⟩) (m + 1) (m + 1))
      rw [hW2] at this
      rw [rep_len]
      simpa using this
    · exact (Keep.refl (fun k => k = g) w).alloc (.cells cs 43) |>.trans hks (fun _ _ h => h))
  have hB_ne : ∀ (l : List It) (c gi : Nat), w.ownsRow 0 54 2 (.slice (some ⟨gi, 0, none⟩) l.length c) l.length (itL l) → gi ≠ g := fun l c gi h e => by
    subst e
    exact hB.row_ne h rfl
  have HG := Lib.hid (show G g ∧ ∀ k, G k → k < w.heap.size from ⟨hB.2.1, hB.1⟩)
  have ya : (w.alloc (.cells cs 43)).cell? ⟨g, 1, none⟩ = some (.slice (some ⟨gr, 0, none⟩) m cap) := by rw [← hm]; exact (World.cell?_alloc_lt _ _ _ g1).trans q1
  have yf : (w.alloc (.cells cs 43)).frozen? ⟨g, 1, none⟩ = false := (World.frozen?_of_block (w := w) (Below.heap_alloc w _ g g1)).trans f1
  rw [hm] at q1 m2 m1 hp
  have hmb : decide ((1048576 : Int) ≤ (m : Int)) = false := decide_eq_false (by omega)
  have HM2 := Lib.hid m2
  have HL := Lib.hid hl
  have HH := Lib.hid hh
  have HM := Lib.hid hm
  have HP := Lib.hid hp
  have HW2 := Lib.hid (show (w.setCell ⟨g, 1, none⟩ (.slice (some ⟨w.heap.size, 0, none⟩) (m + 1) (m + 1))).alloc (.cells cs 43) = W2 from by rw [← World.setCell_alloc_past (w := w) (.cells cs 43) g 1 _ g1]; exact hW2)
  have w1' : IntKind.i64.wrap ((m : Int) + 1) = (m : Int) + 1 := IntWalk.i64_in _ (by omega)
  have HRS := Lib.hid (show rsplitL L = putAll (List.replicate (m + 1) []) L.flatten from by unfold rsplitL; rw [hm])
  have hmz : (m : Int) ≤ 65535 := by omega
  clear hB hcs hRm hBa hks m2 hl hh hm hp n1 n2 q0 f1 hW2
  go_enter Try.func33, Try.ntmps33
  go_wp2_with fail
  rw [HW2.out]
  clear ya yf hmk
  go_loopw [4] (fun ii wr => ∃ i : Nat, i ≤ m ∧ ii = .int .i64 (i : Int) ∧ RsI w g least w.heap.size (m + 1) (m + 1) (L.take i).flatten wr) (fun ii _ => m - (intOf ii).toNat)
  case atStart => exact ⟨0, Nat.zero_le _, rfl, by simpa using HS0.out⟩
  case round =>
    obtain ⟨i, hi, rfl, hI⟩ := hrel
    clear HS0
    obtain ⟨wv, rfl⟩ : ∃ z, z = wr := ⟨_, rfl⟩
    have hib : i ≤ 65536 := by have := HM2.out; omega
    by_cases him : i < m
    · obtain ⟨lst, hlst⟩ : ∃ l, L[i]? = some l := ⟨_, List.getElem?_eq_getElem (by rw [HM.out]; exact him)⟩
      obtain ⟨A, c, hcell, _, hown, hblk, _⟩ := HRws.out.spot hlst
      have hlen := HL.out lst (List.mem_of_getElem? hlst)
      have HHL := Lib.hid (HH.out lst (List.mem_of_getElem? hlst))
      have HRD := Lib.hid (RdI.of_own hown)
      have hflat := keep_flat hlst
      have HFL := Lib.hid hflat
      have HI0 := Lib.hid (show RsI w g least w.heap.size (m + 1) (m + 1) ((L.take i).flatten ++ lst.take 0) wv from by simpa using hI)
      have HPR := Lib.hid (show ∀ k, (L.take i).flatten ++ lst.take k <+: L.flatten from fun k => by
        refine List.IsPrefix.trans ?_ (show (L.take (i + 1)).flatten <+: L.flatten from ⟨(L.drop (i + 1)).flatten, by rw [← List.flatten_append, List.take_append_drop]⟩)
        rw [hflat]
        exact ⟨lst.drop k, by rw [List.append_assoc, List.take_append_drop]⟩)
      have hgr1 : gr ≠ g := fun e => hne e.symm
      have hgi1 : ∀ gi, A = some ⟨gi, 0, none⟩ → gi ≠ g := fun gi e => by
        subst e
        exact hB_ne lst c gi hown
      have HOC := Lib.hid (show ∀ wx, Keep (fun k => k = g) w wx → wx.cell? ⟨gr, i, none⟩ = some (.slice A lst.length c) from fun wx hk => (hk.cell (p := ⟨gr, i, none⟩) g2 hgr1).trans hcell)
      have hil : (i : Int) < (m : Int) := by omega
      have hiz : (0 : Int) ≤ (i : Int) := by omega
      clear hI hflat hlst hown hblk hcell
      go_wp2_with fail
      go_loopw [5] (fun kk wr => ∃ k : Nat, k ≤ lst.length ∧ kk = .int .i64 (k : Int) ∧ RsI w g least w.heap.size (m + 1) (m + 1) ((L.take i).flatten ++ lst.take k) wr) (fun kk _ => lst.length - (intOf kk).toNat)
      case atStart => exact ⟨0, Nat.zero_le _, rfl, HI0.out⟩
      case round =>
        obtain ⟨k, hk, rfl, hI⟩ := hrel
        clear HI0
        have hkb : k ≤ 65536 := by omega
        obtain ⟨Gk, hRB, hGk, hKp⟩ := hI
        have o1 := HOC.out _ hKp
        by_cases hkl : k < lst.length
        · obtain ⟨⟨x, y⟩, hx⟩ : ∃ x, lst[k]? = some x := ⟨_, List.getElem?_eq_getElem hkl⟩
          obtain ⟨gi, rfl, hgi, z0, z1⟩ := HRD.out k _ hx
          have hgig := hgi1 gi rfl
          have j3 := (hKp.cell (p := ⟨gi, k * 2, none⟩) hgi hgig).trans z0
          have j4 := (hKp.cell (p := ⟨gi, k * 2 + 1, none⟩) hgi hgig).trans z1
          obtain ⟨hx1, hx2⟩ := HHL.out _ (List.mem_of_getElem? hx)
          simp only at j3 j4 hx1 hx2
          have hM3 : m + 1 ≤ 1048576 := by have := HM2.out; omega
          have hbl := bk_lt (h := x) (show 1 ≤ m + 1 by omega) hM3
          have j0 := hRB.cells.2.1
          rw [rep_len] at j0
          have HOF := Lib.hid (rof_any g w.heap.size (m + 1) (m + 1) x wr j0 hx1 hx2 (by omega) hM3)
          obtain ⟨l, hll⟩ : ∃ l, (putAll (List.replicate (m + 1) []) ((L.take i).flatten ++ lst.take k))[bk x (m + 1)]? = some l := ⟨_, List.getElem?_eq_getElem (by rw [rep_len]; exact hbl)⟩
          obtain ⟨Am, nm, cm, ga, ca, w3, j1, hrun, ⟨k0, k1, kf⟩, hkc, Gn, hN1, hN2, hN3⟩ := hRB.put (x := (x, y)) hll (HP.out _ (HPR.out k) l (List.mem_of_getElem? hll))
          rw [rep_len] at k0
          have hold : ∀ b, b < w.heap.size → b ≠ g → ¬ Gk b := fun b hb hbg h => by rcases hGk b h with h | h <;> omega
          have hsz := hKp.size
          have k2 := hkc ⟨gr, i, none⟩ _ (by show gr < _; omega) (hold gr g2 hgr1) o1
          have k3 := hkc ⟨gi, k * 2, none⟩ _ (by show gi < _; omega) (hold gi hgi hgig) j3
          have k4 := hkc ⟨gi, k * 2 + 1, none⟩ _ (by show gi < _; omega) (hold gi hgi hgig) j4
          obtain ⟨W3, hW3⟩ : ∃ W3, w3.setCell ⟨w.heap.size, bk x (m + 1), none⟩ (.slice (some ⟨ga, 0, none⟩) (nm + 1) ca) = W3 := ⟨_, rfl⟩
          rw [hW3] at hN1 hN3
          have HI3 := Lib.hid (show RsI w g least w.heap.size (m + 1) (m + 1) ((L.take i).flatten ++ lst.take (k + 1)) W3 from by
            have e1 : lst.take (k + 1) = lst.take k ++ [(x, y)] := by rw [List.take_add_one, hx]; rfl
            refine ⟨Gn, ?_, fun j hj => ?_, ?_⟩
            · rw [e1, ← List.append_assoc, putAll_snoc, List.length_replicate]
              exact hN1
            · rcases hN2 j hj with h | h
              · exact hGk j h
              · exact .inr (Nat.le_trans hsz h)
            · exact hKp.trans hN3 (fun b hb hg => by
                rcases hGk b hg with h | h
                · exact h
                · omega))
          obtain ⟨gr2, hg2e⟩ : ∃ b, w.heap.size = b := ⟨_, rfl⟩
          obtain ⟨n, hn⟩ : ∃ n, bk x (m + 1) = n := ⟨_, rfl⟩
          rw [hg2e] at j0 j1 k0 k1 kf hW3 HI3
          rw [hn] at HOF j1 k1 kf hW3 hbl
          have HRUN := Lib.hid hrun
          have HW3 := Lib.hid hW3
          have j2 := o1
          have hnm : (n : Int) < (m : Int) + 1 := by omega
          have hnz : (0 : Int) ≤ (n : Int) := by omega
          clear hRB hGk hKp hx hx1 hx2 hll hrun hkc hN1 hN2 hN3 hold hsz hW3 hn hbl z0 z1 hgi hM3 o1 hgig
          go_wp2_with fail
          refine HOF.out.mono ?_
          rintro e w' ⟨rfl, rfl⟩
          go_wp2_with fail
          refine Zed.begin (S := fun wx => (wx.cell? ⟨g, 1, none⟩ = some (.slice (some ⟨gr2, 0, none⟩) (m + 1) (m + 1)) ∧ wx.cell? ⟨gr2, n, none⟩ = some (.slice Am nm cm)) ∧ wx.cell? ⟨gr, i, none⟩ = some (.slice (some ⟨gi, 0, none⟩) lst.length c) ∧ (wx.cell? ⟨gi, k * 2, none⟩ = some (.int .u32 x) ∧ wx.cell? ⟨gi, k * 2 + 1, none⟩ = some (.int .i64 y))) (z := 22) (by kernel_rfl) (by first | exact ⟨⟨j0, j1⟩, j2, j3, j4⟩ | exact ⟨⟨(World.cell?_alloc_lt _ _ _ (World.block_lt_of_cell? _ _ j0)).trans j0, (World.cell?_alloc_lt _ _ _ (World.block_lt_of_cell? _ _ j1)).trans j1⟩, (World.cell?_alloc_lt _ _ _ (World.block_lt_of_cell? _ _ j2)).trans j2, (World.cell?_alloc_lt _ _ _ (World.block_lt_of_cell? _ _ j3)).trans j3, (World.cell?_alloc_lt _ _ _ (World.block_lt_of_cell? _ _ j4)).trans j4⟩ | exact ⟨⟨k0, k1⟩, k2, k3, k4⟩) (fun hHeld => ?_)
          refine Zed.take (i := 0) (oi := ⟨some 49, _, _, _, _, _⟩) (v := ?_) rfl (by kernel_rfl) (by kernel_rfl) (by kernel_rfl) (by kernel_rfl) (fun _ _ _ h => h) (Or.inl ⟨by rfl, ?_⟩) (by assumption) ?_
          rotate_left
          · intro wS hSw; (try dsimp only at hSw); go_simp; try with_reducible rfl
          try simp only [Act.put, List.setIfInBounds_toArray, List.set_cons_zero, List.set_cons_succ]
          refine Zed.take (i := 1) (oi := ⟨some 50, _, _, _, _, _⟩) (v := ?_) rfl (by kernel_rfl) (by kernel_rfl) (by kernel_rfl) (by kernel_rfl) (fun _ _ _ h => h) (Or.inl ⟨by rfl, ?_⟩) (by assumption) ?_
          rotate_left
          · intro wS hSw; (try dsimp only at hSw); go_simp; try with_reducible rfl
          try simp only [Act.put, List.setIfInBounds_toArray, List.set_cons_zero, List.set_cons_succ]
          refine Zed.take (i := 2) (oi := ⟨some 51, _, _, _, _, _⟩) (v := ?_) rfl (by kernel_rfl) (by kernel_rfl) (by kernel_rfl) (by kernel_rfl) (fun _ _ _ h => h) (Or.inl ⟨by rfl, ?_⟩) (by assumption) ?_
          rotate_left
          · intro wS hSw; (try dsimp only at hSw); go_simp; try with_reducible rfl
          try simp only [Act.put, List.setIfInBounds_toArray, List.set_cons_zero, List.set_cons_succ]
          refine Zed.take (i := 3) (oi := ⟨some 52, _, _, _, _, _⟩) (v := ?_) rfl (by kernel_rfl) (by kernel_rfl) (by kernel_rfl) (by kernel_rfl) (fun _ _ _ h => h) (Or.inl ⟨by rfl, ?_⟩) (by assumption) ?_
          rotate_left
          · intro wS hSw; (try dsimp only at hSw); go_simp; try with_reducible rfl
          try simp only [Act.put, List.setIfInBounds_toArray, List.set_cons_zero, List.set_cons_succ]
          refine Zed.take (i := 4) (oi := ⟨some 53, _, _, _, _, _⟩) (v := ?_) rfl (by kernel_rfl) (by kernel_rfl) (by kernel_rfl) (by kernel_rfl) (fun _ _ _ h => h) (Or.inl ⟨by rfl, ?_⟩) (by assumption) ?_
          rotate_left
          · intro wS hSw; (try dsimp only at hSw); go_simp; try with_reducible rfl
          try simp only [Act.put, List.setIfInBounds_toArray, List.set_cons_zero, List.set_cons_succ]
          refine Zed.take (i := 5) (oi := ⟨some 54, _, _, _, _, _⟩) (v := ?_) rfl (by kernel_rfl) (by kernel_rfl) (by kernel_rfl) (by kernel_rfl) (fun _ _ _ h => h) (Or.inl ⟨by rfl, ?_⟩) (by assumption) ?_
          rotate_left
          · intro wS hSw; (try dsimp only at hSw); go_simp; try with_reducible rfl
          try simp only [Act.put, List.setIfInBounds_toArray, List.set_cons_zero, List.set_cons_succ]
          refine Zed.take (i := 6) (oi := ⟨some 55, _, _, _, _, _⟩) (v := ?_) rfl (by kernel_rfl) (by kernel_rfl) (by kernel_rfl) (by kernel_rfl) (fun _ _ _ h => h) (Or.inl ⟨by rfl, ?_⟩) (by assumption) ?_
          rotate_left
          · intro wS hSw; (try dsimp only at hSw); go_simp; try with_reducible rfl
          try simp only [Act.put, List.setIfInBounds_toArray, List.set_cons_zero, List.set_cons_succ]
          refine Zed.take (i := 7) (oi := ⟨some 56, _, _, _, _, _⟩) (v := ?_) rfl (by kernel_rfl) (by kernel_rfl) (by kernel_rfl) (by kernel_rfl) (fun _ _ _ h => h) (Or.inl ⟨by rfl, ?_⟩) (by assumption) ?_
          rotate_left
          · intro wS hSw; (try dsimp only at hSw); go_simp; try with_reducible rfl
          try simp only [Act.put, List.setIfInBounds_toArray, List.set_cons_zero, List.set_cons_succ]
          refine Zed.take (i := 8) (oi := ⟨some 57, _, _, _, _, _⟩) (v := ?_) rfl (by kernel_rfl) (by kernel_rfl) (by kernel_rfl) (by kernel_rfl) (fun _ _ _ h => h) (Or.inl ⟨by rfl, ?_⟩) (by assumption) ?_
          rotate_left
          · intro wS hSw; (try dsimp only at hSw); go_simp; try with_reducible rfl
          try simp only [Act.put, List.setIfInBounds_toArray, List.set_cons_zero, List.set_cons_succ]
          refine Zed.take (i := 9) (oi := ⟨some 58, _, _, _, _, _⟩) (v := ?_) rfl (by kernel_rfl) (by kernel_rfl) (by kernel_rfl) (by kernel_rfl) (fun _ _ _ h => h) (Or.inl ⟨by rfl, ?_⟩) (by assumption) ?_
          rotate_left
          · intro wS hSw; (try dsimp only at hSw); go_simp; try with_reducible rfl
          try simp only [Act.put, List.setIfInBounds_toArray, List.set_cons_zero, List.set_cons_succ]
          refine Zed.take (i := 10) (oi := ⟨some 59, _, _, _, _, _⟩) (v := ?_) rfl (by kernel_rfl) (by kernel_rfl) (by kernel_rfl) (by kernel_rfl) (fun _ _ _ h => h) (Or.inl ⟨by rfl, ?_⟩) (by assumption) ?_
          rotate_left
          · intro wS hSw; (try dsimp only at hSw); go_simp; try with_reducible rfl
          try simp only [Act.put, List.setIfInBounds_toArray, List.set_cons_zero, List.set_cons_succ]
          refine Zed.take (i := 11) (oi := ⟨some 60, _, _, _, _, _⟩) (v := ?_) rfl (by kernel_rfl) (by kernel_rfl) (by kernel_rfl) (by kernel_rfl) (fun _ _ _ h => h) (Or.inl ⟨by rfl, ?_⟩) (by assumption) ?_
          rotate_left
          · intro wS hSw; (try dsimp only at hSw); go_simp; try with_reducible rfl
          try simp only [Act.put, List.setIfInBounds_toArray, List.set_cons_zero, List.set_cons_succ]
          refine Zed.take (i := 12) (oi := ⟨some 61, _, _, _, _, _⟩) (v := ?_) rfl (by kernel_rfl) (by kernel_rfl) (by kernel_rfl) (by kernel_rfl) (fun _ _ _ h => h) (Or.inl ⟨by rfl, ?_⟩) (by assumption) ?_
          rotate_left
          · intro wS hSw; (try dsimp only at hSw); go_simp; try with_reducible rfl
          try simp only [Act.put, List.setIfInBounds_toArray, List.set_cons_zero, List.set_cons_succ]
          refine Zed.take (i := 13) (oi := ⟨some 62, _, _, _, _, _⟩) (v := ?_) rfl (by kernel_rfl) (by kernel_rfl) (by kernel_rfl) (by kernel_rfl) (fun _ _ _ h => h) (Or.inl ⟨by rfl, ?_⟩) (by assumption) ?_
          rotate_left
          · intro wS hSw; (try dsimp only at hSw); go_simp; try with_reducible rfl
          try simp only [Act.put, List.setIfInBounds_toArray, List.set_cons_zero, List.set_cons_succ]
          refine Zed.take (i := 14) (oi := ⟨some 63, _, _, _, _, _⟩) (v := ?_) rfl (by kernel_rfl) (by kernel_rfl) (by kernel_rfl) (by kernel_rfl) (fun _ _ _ h => h) (Or.inl ⟨by rfl, ?_⟩) (by assumption) ?_
          rotate_left
          · intro wS hSw; (try dsimp only at hSw); go_simp; try with_reducible rfl
          try simp only [Act.put, List.setIfInBounds_toArray, List.set_cons_zero, List.set_cons_succ]
          refine Zed.take (i := 15) (oi := ⟨some 64, _, _, _, _, _⟩) (v := ?_) rfl (by kernel_rfl) (by kernel_rfl) (by kernel_rfl) (by kernel_rfl) (fun _ _ _ h => h) (Or.inl ⟨by rfl, ?_⟩) (by assumption) ?_
          rotate_left
          · intro wS hSw; (try dsimp only at hSw); go_simp; try with_reducible rfl
          try simp only [Act.put, List.setIfInBounds_toArray, List.set_cons_zero, List.set_cons_succ]
          refine Zed.take (i := 16) (oi := ⟨some 65, _, _, _, _, _⟩) (v := ?_) rfl (by kernel_rfl) (by kernel_rfl) (by kernel_rfl) (by kernel_rfl) (fun _ _ _ h => h) (Or.inl ⟨by rfl, ?_⟩) (by assumption) ?_
          rotate_left
          · intro wS hSw; (try dsimp only at hSw); go_simp; try with_reducible rfl
          try simp only [Act.put, List.setIfInBounds_toArray, List.set_cons_zero, List.set_cons_succ]
          refine Zed.take (i := 17) (oi := ⟨some 66, _, _, _, _, _⟩) (v := ?_) rfl (by kernel_rfl) (by kernel_rfl) (by kernel_rfl) (by kernel_rfl) (fun _ _ _ h => h) (Or.inl ⟨by rfl, ?_⟩) (by assumption) ?_
          rotate_left
          · intro wS hSw; (try dsimp only at hSw); go_simp; try with_reducible rfl
          try simp only [Act.put, List.setIfInBounds_toArray, List.set_cons_zero, List.set_cons_succ]
          refine Zed.take (i := 18) (oi := ⟨some 67, _, _, _, _, _⟩) (v := ?_) rfl (by kernel_rfl) (by kernel_rfl) (by kernel_rfl) (by kernel_rfl) (fun _ _ _ h => h) (Or.inl ⟨by rfl, ?_⟩) (by assumption) ?_
          rotate_left
          · intro wS hSw; (try dsimp only at hSw); go_simp; try with_reducible rfl
          try simp only [Act.put, List.setIfInBounds_toArray, List.set_cons_zero, List.set_cons_succ]
          refine Zed.ready (rs := [19]) (by kernel_rfl) (by simp) ?_
          refine Zeach.cons (o := ⟨some 68, _, _, _, _, _⟩) rfl (fun K hK => ?_) Zeach.nil
          go_simp
          refine hK.out _ _ (by first | exact ⟨⟨j0, j1⟩, j2, j3, j4⟩ | exact ⟨⟨(World.cell?_alloc_lt _ _ _ (World.block_lt_of_cell? _ _ j0)).trans j0, (World.cell?_alloc_lt _ _ _ (World.block_lt_of_cell? _ _ j1)).trans j1⟩, (World.cell?_alloc_lt _ _ _ (World.block_lt_of_cell? _ _ j2)).trans j2, (World.cell?_alloc_lt _ _ _ (World.block_lt_of_cell? _ _ j3)).trans j3, (World.cell?_alloc_lt _ _ _ (World.block_lt_of_cell? _ _ j4)).trans j4⟩ | exact ⟨⟨k0, k1⟩, k2, k3, k4⟩) (fun hHeld => ?_)
          clear hK K
          try simp only [Act.put, List.setIfInBounds_toArray, List.set_cons_zero, List.set_cons_succ]
          refine Zed.ready (rs := [20]) (by kernel_rfl) (by simp) ?_
          refine Zeach.cons (o := ⟨some 69, _, _, _, _, _⟩) rfl (fun K hK => ?_) Zeach.nil
          refine step_append_run (.tmp 60) (.tmp 68) 43 _ _ _ HRUN.out rfl rfl (by simp [Act.eval, Act.put]) (by simp [Act.eval, Act.put]) ?_
          refine hK.out _ _ (by first | exact ⟨⟨j0, j1⟩, j2, j3, j4⟩ | exact ⟨⟨(World.cell?_alloc_lt _ _ _ (World.block_lt_of_cell? _ _ j0)).trans j0, (World.cell?_alloc_lt _ _ _ (World.block_lt_of_cell? _ _ j1)).trans j1⟩, (World.cell?_alloc_lt _ _ _ (World.block_lt_of_cell? _ _ j2)).trans j2, (World.cell?_alloc_lt _ _ _ (World.block_lt_of_cell? _ _ j3)).trans j3, (World.cell?_alloc_lt _ _ _ (World.block_lt_of_cell? _ _ j4)).trans j4⟩ | exact ⟨⟨k0, k1⟩, k2, k3, k4⟩) (fun hHeld => ?_)
          clear hK K
          try simp only [Act.put, List.setIfInBounds_toArray, List.set_cons_zero, List.set_cons_succ]
          refine Zed.take (i := 21) (oi := ⟨some 70, _, _, _, _, _⟩) (v := ?_) rfl (by kernel_rfl) (by kernel_rfl) (by kernel_rfl) (by kernel_rfl) (fun _ _ _ h => h) (Or.inl ⟨by rfl, ?_⟩) (by assumption) ?_
          rotate_left
          · intro wS hSw; (try dsimp only at hSw); go_simp; try with_reducible rfl
          try simp only [Act.put, List.setIfInBounds_toArray, List.set_cons_zero, List.set_cons_succ]
          refine Zed.ready (rs := [22]) (by kernel_rfl) (by simp) ?_
          refine Zeach.last (o := ⟨none, _, _, _, _, _⟩) rfl (fun K hK => ?_)
          go_simp
          refine hK.out _ _ ?_
          clear hK K
          try simp only [Act.put, List.setIfInBounds_toArray, List.set_cons_zero, List.set_cons_succ]
          refine Zed.done (by kernel_rfl) ?_ _
          rw [HW3.out]
          go_wp2_with fail
          subst hg2e
          go_roundw
          case rel => exact ⟨k + 1, by omega, by go_num, HI3.out⟩
          case measure => simp [intOf]; omega
        · obtain rfl : k = lst.length := by omega
          have HI9 := Lib.hid (show RsI w g least w.heap.size (m + 1) (m + 1) (L.take (i + 1)).flatten wr from by
            rw [HFL.out]
            rw [List.take_length] at hRB
            exact ⟨Gk, hRB, hGk, hKp⟩)
          clear hRB hGk hKp
          go_wp2_with fail
          go_roundw
          case rel => exact ⟨i + 1, by omega, by go_num, HI9.out⟩
          case measure => simp [intOf]; omega
    · obtain rfl : i = m := by omega
      obtain ⟨Gk, hRB, hGk, hKp⟩ := hI
      have hft : L.take i = L := by rw [← HM.out, List.take_length]
      rw [hft] at hRB
      have HF := Lib.hid (show (∃ gr' cap', RB wv (upG G w wv) g least gr' cap' (rsplitL L)) ∧ Keep G w wv from by
        rw [HRS.out]
        exact ⟨⟨_, _, hRB.mono (fun j hj => by
          have hjl := hRB.1 j hj
          rcases hGk j hj with h | h
          · exact .inl (h ▸ HG.out.1)
          · exact .inr ⟨h, hjl⟩) (fun j hj => by
          rcases hj with hj | hj
          · exact Nat.lt_of_lt_of_le (HG.out.2 j hj) hKp.size
          · exact hj.2)⟩, hKp.mono (fun b _ h => h ▸ HG.out.1)⟩)
      clear hRB hGk hKp hft
      go_wp2_with fail
      go_ret
      exact ⟨rfl, HF.out⟩
end Go.Proofs.Ytjipncpplpfobaa.Lb
