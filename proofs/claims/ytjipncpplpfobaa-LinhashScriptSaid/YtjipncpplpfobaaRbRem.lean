/- The document's Chain and Remove of buckets, by their contracts. -/
import Derived.Test.YtjipncpplpfobaaRbAdd
namespace Go.Proofs.Ytjipncpplpfobaa.Lb
open Go.RowKit K Hs
set_option linter.unusedVariables false
set_option linter.unusedSimpArgs false

set_option maxRecDepth 100000 in
set_option maxHeartbeats 16000000 in
theorem rchain_any {w : World} {G : Nat → Prop} {g least gr cap : Nat} {L : List (List It)} (hB : RB w G g least gr cap L) (h : Int) (h0 : 0 ≤ h) (h1 : h ≤ 4294967295) (m1 : 1 ≤ L.length) (m2 : L.length ≤ 65536) (hl : ∀ l ∈ L, l.length ≤ 65536) :
    Calls Try.prog 30 #[.pointer (some ⟨g, 0, none⟩), .int .u32 h] w (RowPost w (fil h (L.getD (bk h L.length) []))) := by
  have hlt := bk_lt (h := h) m1 (Nat.le_trans m2 (by decide))
  obtain ⟨q0, q1, f1, g1, g2, n1, n2, hne⟩ := hB.cells
  obtain ⟨m, hm⟩ : ∃ m, L.length = m := ⟨_, rfl⟩
  have HOF := Lib.hid (fun d => rof_any g gr m cap h (w.drewN d) (by rw [← hm]; exact q1) h0 h1 (by omega) (by omega))
  rw [← hm] at HOF
  obtain ⟨n, hn⟩ : ∃ n, bk h L.length = n := ⟨_, rfl⟩
  rw [hn] at hlt HOF ⊢
  obtain ⟨l, hll⟩ : ∃ l, L[n]? = some l := ⟨_, List.getElem?_eq_getElem hlt⟩
  rw [getD_at hll]
  obtain ⟨A, c, hcell, hfz, hown, hblk, hA⟩ := hB.2.2.2.spot hll
  have hlen := hl l (List.mem_of_getElem? hll)
  have HRD := Lib.hid (RdI.of_own hown)
  rw [hm] at q1
  have hnm : (n : Int) < (m : Int) := by omega
  have hnz : (0 : Int) ≤ (n : Int) := by omega
  clear hB hown hblk hA hll n1 n2 h0 h1 m1 m2 hl hm hn hlt hfz
  go_enter Try.func30, Try.ntmps30
  go_wp2_with fail
  go_quiet (first | (go_at_call 44; exact quiet_left (HOF.out _)) | fail)
  have HB0 := Lib.hid (show Below w.heap.size w (w.drewN nq) from bdN (Below.refl _ _))
  clear q0 q1 hcell
  go_wp2_with fail
  go_loopw [5, 7] (fun s i wr => ∃ (k n6 c6 : Nat) (A6 : Option Addr), k ≤ l.length ∧ i = .int .i64 (k : Int) ∧ s = .slice A6 n6 c6 ∧ n6 = (fil h (l.take k)).length ∧ Below w.heap.size w wr ∧ wr.ownsRow w.heap.size 54 2 (.slice A6 n6 c6) n6 (itL (fil h (l.take k)))) (fun _ i _ => l.length - (intOf i).toNat)
  case atStart => exact ⟨0, 0, 0, none, Nat.zero_le _, rfl, rfl, by simp [fil], HB0.out, by simpa [fil, itL] using World.ownsRow_nil _ _ _ _⟩
  case round =>
    obtain ⟨k, n6, c6, A6, hk, rfl, rfl, hn6, hb, hR6⟩ := hrel
    clear HB0
    have HB := Lib.hid hb
    have HR6 := Lib.hid hR6
    by_cases hkl : k < l.length
    · obtain ⟨⟨x, y⟩, hx⟩ : ∃ x, l[k]? = some x := ⟨_, List.getElem?_eq_getElem hkl⟩
      obtain ⟨gi, rfl, hgi, z0, z1⟩ := (HRD.out.below hb) k _ hx
      simp only at z0 z1
      have h64 : n6 ≤ 65536 := by
        have h1 := (fil_take h l k).length_le
        have h2 : (fil h l).length ≤ l.length := List.length_filter_le _ _
        omega
      have hkb : k ≤ 65536 := by omega
      clear hb hR6
      by_cases e : x = h
      · subst e
        have hst := fil_yes hx rfl
        subst hn6
        obtain ⟨F, hF⟩ : ∃ F, fil x (l.take k) = F := ⟨_, rfl⟩
        rw [hF] at hst HR6 h64 ⊢
        obtain ⟨ga, ca, w4, hrun, hown, hgr, hat⟩ := item_run2 w.heap.size wr A6 c6 F (x, y) HR6.out (by omega) HB.out.size
        have HRN := Lib.hid hrun
        have e1 : (F ++ [(x, y)]).length = F.length + 1 := by simp
        have HO := Lib.hid hown
        have HST := Lib.hid hst
        have HBN := Lib.hid (show Below w.heap.size w w4 from ((HB.out.alloc HB.out.size _).grown hgr (by simp; have := HB.out.size; omega) (fun r hr => (HR6.out.lt r hr).1)))
        clear hrun hown hgr hat hst hF hx
        go_wp2_with (first
          | (at_builtin; refine wpList_append_run (o := ⟨some 36, _, _, _, _, _⟩) (.tmp 30) (.tmp 35) 43 _ _ _ HRN.out rfl rfl (by simp [Act.eval, Act.put]) (by simp [Act.eval, Act.put]) ?_)
          | fail)
        go_roundw
        case rel => exact ⟨k + 1, F.length + 1, ca, some ⟨ga, 0, none⟩, by omega, by go_num, rfl, by rw [HST.out, e1], HBN.out, by rw [HST.out, ← e1]; exact HO.out⟩
        case measure => simp [intOf]; omega
      · have hst := fil_no hx e
        rw [← hst] at hn6 HR6
        have hdd : decide (x = h) = false := decide_eq_false e
        have hdd2 : (x == h) = false := by simpa using e
        clear hst hx
        go_wp2_with fail
        go_roundw
        case rel => exact ⟨k + 1, n6, c6, A6, by omega, by go_num, rfl, hn6, HB.out, HR6.out⟩
        case measure => simp [intOf]; omega
    · obtain rfl : k = l.length := by omega
      rw [List.take_length] at hn6 HR6
      subst hn6
      clear hb hR6
      go_wp2_with fail
      go_ret
      exact ⟨_, rfl, HR6.out, HB.out⟩
/-- append(append([]Item{}, l[:k]...), l[k+1:]...): the runs, told ahead. -/
theorem pull_runs (w : World) (gi c : Nat) (l : List It) (k : Nat) (hr : w.ownsRow 0 54 2 (.slice (some ⟨gi, 0, none⟩) l.length c) l.length (itL l)) (hk : k < l.length) (hl : l.length ≤ 65536) :
    ∃ A1 c1 w1 A2 c2 w2, (Builtin.append_ #[43, 43] 43 #[.slice (some ⟨w.heap.size, 0, none⟩) 0 0, .slice (some ⟨gi, 0, none⟩) k c]).run Try.prog (w.drew.alloc (.cells #[] 54)) = .ok (.slice A1 k c1) w1 ∧ Below w.heap.size w w1 ∧
      (Builtin.append_ #[43, 43] 43 #[.slice A1 k c1, .slice (if c = k + 1 then some ⟨gi, 0, none⟩ else some ⟨gi, (k + 1) * 2, none⟩) (l.length - (k + 1)) (c - (k + 1))]).run Try.prog w1 = .ok (.slice A2 (l.length - 1) c2) w2 ∧
      w2.ownsRow w.heap.size 54 2 (.slice A2 (l.length - 1) c2) (l.length - 1) (itL (l.eraseIdx k)) ∧ Below w.heap.size w w2 := by
  have bd0 : Below w.heap.size w w.drew := below_drew (Below.refl _ _)
  have hrd := Reads.of_own hr
  have hc : l.length ≤ c := by
    obtain ⟨_, _, e, e1, _⟩ := ownsRow_form hr
    injection e with _ _ e
    omega
  obtain ⟨A1, c1, w1, run1, o1, b1, _, _⟩ := app1 w _ (bal bd0 (.cells #[] 54)) w.heap.size (lit_own w w.drew bd0) (some ⟨gi, 0, none⟩) c k _ (Reads.take_ hrd (Nat.le_of_lt hk)) (fun u hu => itL_one l u (List.mem_of_mem_take hu)) (by omega)
  obtain ⟨i0, hi, hz0, hz1, hz2⟩ := info_parts infoI
  have hcut := (hrd.below b1).cut (k := k + 1) (cap := c) (by omega) hc
  have e9 : (if c = k + 1 then (some ⟨gi, 0, none⟩ : Option Addr) else (some (⟨gi, 0, none⟩ : Addr)).map (·.add ((k + 1) * 2))) = if c = k + 1 then some ⟨gi, 0, none⟩ else some ⟨gi, (k + 1) * 2, none⟩ := by
    split
    · rfl
    · simp [Addr.add]
  rw [e9] at hcut
  obtain ⟨v2, w2, run2, o2, gr2, at2⟩ := run_append_any (P := Try.prog) w1 w.heap.size 43 43 54 i0 _ 2 16 Try.underlying43 hi hz0 hz1 hz2 rfl (by decide) (.slice A1 k c1) k _ o1 w.heap.size (if c = k + 1 then some ⟨gi, 0, none⟩ else some ⟨gi, (k + 1) * 2, none⟩) (l.length - (k + 1)) (c - (k + 1)) ((itL l).drop ((k + 1) * 2)) hcut
    (fun u hu => itL_one l u (List.mem_of_mem_drop hu)) (by unfold maxLen; omega) (by omega) b1.size
  have e : k + (l.length - (k + 1)) = l.length - 1 := by omega
  rw [e, ← itL_erase] at o2
  obtain ⟨A2, c2, rfl, _, _⟩ := ownsRow_form o2
  exact ⟨A1, c1, w1, A2, c2, w2, run1, b1, run2, o2, b1.grown gr2 b1.size (fun r hr2 => (o1.lt r hr2).1)⟩
set_option maxRecDepth 100000 in
set_option maxHeartbeats 16000000 in
theorem rrem_any {w : World} {G : Nat → Prop} {g least gr cap : Nat} {L : List (List It)} (hB : RB w G g least gr cap L) (h id : Int) (h0 : 0 ≤ h) (h1 : h ≤ 4294967295) (m1 : 1 ≤ L.length) (m2 : L.length ≤ 65536) (hl : ∀ l ∈ L, l.length ≤ 65536) :
    Calls Try.prog 29 #[.pointer (some ⟨g, 0, none⟩), .int .u32 h, .int .i64 id] w fun e w' => e = .returned (.bool (hasI (L.getD (bk h L.length) []) (h, id))) ∧ RB w' (upG G w w') g least gr cap (remL L (bk h L.length) (h, id)) ∧ Keep G w w' := by
  have hlt := bk_lt (h := h) m1 (Nat.le_trans m2 (by decide))
  obtain ⟨q0, q1, f1, g1, g2, n1, n2, hne⟩ := hB.cells
  obtain ⟨m, hm⟩ : ∃ m, L.length = m := ⟨_, rfl⟩
  have HOF := Lib.hid (rof_any g gr m cap h w (by rw [← hm]; exact q1) h0 h1 (by omega) (by omega))
  rw [← hm] at HOF
  obtain ⟨n, hn⟩ : ∃ n, bk h L.length = n := ⟨_, rfl⟩
  rw [hn] at hlt HOF ⊢
  obtain ⟨l, hll⟩ : ∃ l, L[n]? = some l := ⟨_, List.getElem?_eq_getElem hlt⟩
  have hgd := getD_at hll
  have hrl : remL L n (h, id) = L.set n (remR l (h, id)) := by unfold remL; rw [hgd]
  rw [hgd, hrl]
  obtain ⟨A, c, hcell, hfz, hown, hblk, hA⟩ := hB.2.2.2.spot hll
  have hlen := hl l (List.mem_of_getElem? hll)
  have HRD := Lib.hid (RdI.of_own hown)
  rw [hm] at q1
  have hnm : (n : Int) < (m : Int) := by omega
  have hnz : (0 : Int) ≤ (n : Int) := by omega
  have hself : RB w (upG G w w) g least gr cap L := hB.mono (fun k hk => .inl hk) (fun k hk => by
    rcases hk with hk | hk
    · exact hB.1 k hk
    · exact hk.2)
  have HNO := Lib.hid (show ¬ ix l (h, id) < l.length → false = hasI l (h, id) ∧ RB w (upG G w w) g least gr cap (L.set n (remR l (h, id))) ∧ Keep G w w from fun hx => by
    have e1 : remR l (h, id) = l := if_neg hx
    have e2 : L.set n l = L := by
      apply List.ext_getElem?
      intro k
      by_cases e : n = k
      · subst e; rw [List.getElem?_set_self hlt, hll]
      · rw [List.getElem?_set_ne e]
    rw [e1, e2]
    exact ⟨(decide_eq_false hx).symm, hself, Keep.refl _ _⟩)
  have hqc : l.length ≤ c := by
    obtain ⟨_, _, e, e1, _⟩ := ownsRow_form hown
    injection e with _ _ e
    omega
  have HYES := Lib.hid (show ∀ (gi k : Nat), A = some ⟨gi, 0, none⟩ → k < l.length → ix l (h, id) = k → ∃ A1 c1 w1 A2 c2 w2, (Builtin.append_ #[43, 43] 43 #[.slice (some ⟨w.heap.size, 0, none⟩) 0 0, .slice (some ⟨gi, 0, none⟩) k c]).run Try.prog (w.drew.alloc (.cells #[] 54)) = .ok (.slice A1 k c1) w1 ∧ Below w.heap.size w w1 ∧
      (Builtin.append_ #[43, 43] 43 #[.slice A1 k c1, .slice (if c = k + 1 then some ⟨gi, 0, none⟩ else some ⟨gi, (k + 1) * 2, none⟩) (l.length - (k + 1)) (c - (k + 1))]).run Try.prog w1 = .ok (.slice A2 (l.length - 1) c2) w2 ∧ Below w.heap.size w w2 ∧
      (true = hasI l (h, id) ∧ RB (w2.setCell ⟨gr, n, none⟩ (.slice A2 (l.length - 1) c2)) (upG G w (w2.setCell ⟨gr, n, none⟩ (.slice A2 (l.length - 1) c2))) g least gr cap (L.set n (remR l (h, id))) ∧ Keep G w (w2.setCell ⟨gr, n, none⟩ (.slice A2 (l.length - 1) c2))) from fun gi k hA hk hix => by
    subst hA
    obtain ⟨A1, c1, w1, A2, c2, w2, r1, b1, r2, o2, b2⟩ := pull_runs w gi c l k hown hk hlen
    have e1 : remR l (h, id) = l.eraseIdx k := by unfold remR; rw [hix, if_pos hk]
    have e2 : l.length - 1 = (l.eraseIdx k).length := by rw [List.length_eraseIdx, if_pos hk]
    rw [e1]
    exact ⟨A1, c1, w1, A2, c2, w2, r1, b1, r2, b2, (decide_eq_true (by rw [hix]; exact hk)).symm, hB.fresh hll b2 o2 e2⟩)
  have HKS0 := Lib.hid (show ∀ wx, Below w.heap.size w wx → (wx.cell? ⟨g, 1, none⟩ = some (.slice (some ⟨gr, 0, none⟩) m cap) ∧ wx.cell? ⟨gr, n, none⟩ = some (.slice A l.length c)) from fun wx hb => ⟨(hb.cell (p := ⟨g, 1, none⟩) g1).trans q1, (hb.cell (p := ⟨gr, n, none⟩) g2).trans hcell⟩)
  have HFZ := Lib.hid (show ∀ wx, Below w.heap.size w wx → wx.frozen? ⟨gr, n, none⟩ = false from fun wx hb => (World.frozen?_of_block (w := w) (hb.block gr g2)).trans hfz)
  have bd0 : Below w.heap.size w w.drew := below_drew (Below.refl _ _)
  clear hB hself hown hblk hll hA n1 n2 h0 h1 m1 m2 hl hm hn hlt q0 f1 hgd hrl hfz
  go_enter Try.func29, Try.ntmps29
  go_wp2_with (first
    | (go_at_call 44; refine HOF.out.mono ?_; rintro e w' ⟨rfl, rfl⟩)
    | fail)
  go_loop [8] (fun i => ∃ k : Nat, k ≤ l.length ∧ i = .int .i64 (k : Int) ∧ k ≤ ix l (h, id)) (fun i => l.length - (intOf i).toNat)
  case atStart => exact ⟨0, Nat.zero_le _, rfl, Nat.zero_le _⟩
  case round =>
    obtain ⟨k, hk, rfl, hix⟩ := hrel
    have hkb : k ≤ 65536 := by omega
    by_cases hkl : k < l.length
    · obtain ⟨⟨x, y⟩, hx⟩ : ∃ x, l[k]? = some x := ⟨_, List.getElem?_eq_getElem hkl⟩
      obtain ⟨gi, rfl, hgi, z0, z1⟩ := HRD.out k _ hx
      simp only at z0 z1
      by_cases hne2 : ((x, y) : It) = (h, id)
      · injection hne2 with e1 e2
        subst e1 e2
        have hixk := ix_here hx hix
        obtain ⟨A1, c1, w1, A2, c2, w2, r1, b1, r2, b2, fin⟩ := HYES.out gi k rfl hkl hixk
        obtain ⟨q, hq⟩ : ∃ q, l.length = q := ⟨_, rfl⟩
        obtain ⟨A9, hA9⟩ : ∃ A9, (if c = k + 1 then some (⟨gi, 0, none⟩ : Addr) else some ⟨gi, (k + 1) * 2, none⟩) = some A9 := by
          split <;> exact ⟨_, rfl⟩
        rw [hA9] at r2
        rw [hq] at r2 fin hkl hlen hqc hcell HKS0
        have HRa := Lib.hid r1; have HRb := Lib.hid r2
        have B1 := Lib.hid b1; have C1 := Lib.hid b2
        have F1 := Lib.hid fin
        have HKS := HKS0
        have y2 := HFZ.out _ b2
        have y1 := (HKS0.out _ b2).2
        have i0 : (0 : Int) ≤ (k : Int) := by omega
        have i2 : (k : Int) + 1 ≤ (q : Int) := by omega
        have i3 : ((k : Int) + 1).toNat = k + 1 := by omega
        have i4 : (0 : Int) ≤ (k : Int) + 1 := by omega
        have i5 : k ≤ c := by omega
        have i6 : k + 1 ≤ q := by omega
        have i7 : q ≤ c := hqc
        have i8 : IntKind.i64.wrap ((k : Int) + 1) = (k : Int) + 1 := IntWalk.i64_in _ (by omega)
        have hqi : (k : Int) < (q : Int) := by omega
        rw [hq]
        clear r1 r2 b1 b2 fin hx hixk hix hq HKS0
        go_wp2_with fail
        refine Zed.begin (S := fun wx => wx.cell? ⟨g, 1, none⟩ = some (.slice (some ⟨gr, 0, none⟩) m cap) ∧ wx.cell? ⟨gr, n, none⟩ = some (.slice (some ⟨gi, 0, none⟩) q c)) (z := 28) (by kernel_rfl) (HKS.out _ bd0) (fun hHeld => ?_)
        refine Zed.take (i := 0) (oi := ⟨some 52, _, _, _, _, _⟩) (v := ?_) rfl (by kernel_rfl) (by kernel_rfl) (by kernel_rfl) (by kernel_rfl) (fun _ _ _ h => h) (Or.inl ⟨by rfl, ?_⟩) (by assumption) ?_
        rotate_left
        · intro wS hSw; (try dsimp only at hSw); go_simp; try with_reducible rfl
        try simp only [Act.put, List.setIfInBounds_toArray, List.set_cons_zero, List.set_cons_succ]
        refine Zed.take (i := 1) (oi := ⟨some 53, _, _, _, _, _⟩) (v := ?_) rfl (by kernel_rfl) (by kernel_rfl) (by kernel_rfl) (by kernel_rfl) (fun _ _ _ h => h) (Or.inl ⟨by rfl, ?_⟩) (by assumption) ?_
        rotate_left
        · intro wS hSw; (try dsimp only at hSw); go_simp; try with_reducible rfl
        try simp only [Act.put, List.setIfInBounds_toArray, List.set_cons_zero, List.set_cons_succ]
        refine Zed.take (i := 2) (oi := ⟨some 54, _, _, _, _, _⟩) (v := ?_) rfl (by kernel_rfl) (by kernel_rfl) (by kernel_rfl) (by kernel_rfl) (fun _ _ _ h => h) (Or.inl ⟨by rfl, ?_⟩) (by assumption) ?_
        rotate_left
        · intro wS hSw; (try dsimp only at hSw); go_simp; try with_reducible rfl
        try simp only [Act.put, List.setIfInBounds_toArray, List.set_cons_zero, List.set_cons_succ]
        refine Zed.take (i := 3) (oi := ⟨some 55, _, _, _, _, _⟩) (v := ?_) rfl (by kernel_rfl) (by kernel_rfl) (by kernel_rfl) (by kernel_rfl) (fun _ _ _ h => h) (Or.inl ⟨by rfl, ?_⟩) (by assumption) ?_
        rotate_left
        · intro wS hSw; (try dsimp only at hSw); go_simp; try with_reducible rfl
        try simp only [Act.put, List.setIfInBounds_toArray, List.set_cons_zero, List.set_cons_succ]
        refine Zed.take (i := 4) (oi := ⟨some 56, _, _, _, _, _⟩) (v := ?_) rfl (by kernel_rfl) (by kernel_rfl) (by kernel_rfl) (by kernel_rfl) (fun _ _ _ h => h) (Or.inl ⟨by rfl, ?_⟩) (by assumption) ?_
        rotate_left
        · intro wS hSw; (try dsimp only at hSw); go_simp; try with_reducible rfl
        try simp only [Act.put, List.setIfInBounds_toArray, List.set_cons_zero, List.set_cons_succ]
        refine Zed.take (i := 6) (oi := ⟨some 58, _, _, _, _, _⟩) (v := ?_) rfl (by kernel_rfl) (by kernel_rfl) (by kernel_rfl) (by kernel_rfl) (fun _ _ _ h => h) (Or.inl ⟨by rfl, ?_⟩) (by assumption) ?_
        rotate_left
        · intro wS hSw; (try dsimp only at hSw); go_simp; try with_reducible rfl
        try simp only [Act.put, List.setIfInBounds_toArray, List.set_cons_zero, List.set_cons_succ]
        refine Zed.take (i := 7) (oi := ⟨some 59, _, _, _, _, _⟩) (v := ?_) rfl (by kernel_rfl) (by kernel_rfl) (by kernel_rfl) (by kernel_rfl) (fun _ _ _ h => h) (Or.inl ⟨by rfl, ?_⟩) (by assumption) ?_
        rotate_left
        · intro wS hSw; (try dsimp only at hSw); go_simp; try with_reducible rfl
        try simp only [Act.put, List.setIfInBounds_toArray, List.set_cons_zero, List.set_cons_succ]
        refine Zed.take (i := 8) (oi := ⟨some 60, _, _, _, _, _⟩) (v := ?_) rfl (by kernel_rfl) (by kernel_rfl) (by kernel_rfl) (by kernel_rfl) (fun _ _ _ h => h) (Or.inl ⟨by rfl, ?_⟩) (by assumption) ?_
        rotate_left
        · intro wS hSw; (try dsimp only at hSw); go_simp; try with_reducible rfl
        try simp only [Act.put, List.setIfInBounds_toArray, List.set_cons_zero, List.set_cons_succ]
        refine Zed.take (i := 9) (oi := ⟨some 61, _, _, _, _, _⟩) (v := ?_) rfl (by kernel_rfl) (by kernel_rfl) (by kernel_rfl) (by kernel_rfl) (fun _ _ _ h => h) (Or.inl ⟨by rfl, ?_⟩) (by assumption) ?_
        rotate_left
        · intro wS hSw; (try dsimp only at hSw); go_simp; try with_reducible rfl
        try simp only [Act.put, List.setIfInBounds_toArray, List.set_cons_zero, List.set_cons_succ]
        refine Zed.take (i := 10) (oi := ⟨some 62, _, _, _, _, _⟩) (v := ?_) rfl (by kernel_rfl) (by kernel_rfl) (by kernel_rfl) (by kernel_rfl) (fun _ _ _ h => h) (Or.inl ⟨by rfl, ?_⟩) (by assumption) ?_
        rotate_left
        · intro wS hSw; (try dsimp only at hSw); go_simp; try with_reducible rfl
        try simp only [Act.put, List.setIfInBounds_toArray, List.set_cons_zero, List.set_cons_succ]
        refine Zed.take (i := 11) (oi := ⟨some 63, _, _, _, _, _⟩) (v := ?_) rfl (by kernel_rfl) (by kernel_rfl) (by kernel_rfl) (by kernel_rfl) (fun _ _ _ h => h) (Or.inl ⟨by rfl, ?_⟩) (by assumption) ?_
        rotate_left
        · intro wS hSw; (try dsimp only at hSw); go_simp; try with_reducible rfl
        try simp only [Act.put, List.setIfInBounds_toArray, List.set_cons_zero, List.set_cons_succ]
        refine Zed.take (i := 12) (oi := ⟨some 64, _, _, _, _, _⟩) (v := ?_) rfl (by kernel_rfl) (by kernel_rfl) (by kernel_rfl) (by kernel_rfl) (fun _ _ _ h => h) (Or.inl ⟨by rfl, ?_⟩) (by assumption) ?_
        rotate_left
        · intro wS hSw; (try dsimp only at hSw); go_simp; try with_reducible rfl
        try simp only [Act.put, List.setIfInBounds_toArray, List.set_cons_zero, List.set_cons_succ]
        refine Zed.take (i := 13) (oi := ⟨some 65, _, _, _, _, _⟩) (v := ?_) rfl (by kernel_rfl) (by kernel_rfl) (by kernel_rfl) (by kernel_rfl) (fun _ _ _ h => h) (Or.inl ⟨by rfl, ?_⟩) (by assumption) ?_
        rotate_left
        · intro wS hSw; (try dsimp only at hSw); go_simp; try with_reducible rfl
        try simp only [Act.put, List.setIfInBounds_toArray, List.set_cons_zero, List.set_cons_succ]
        refine Zed.take (i := 14) (oi := ⟨some 66, _, _, _, _, _⟩) (v := ?_) rfl (by kernel_rfl) (by kernel_rfl) (by kernel_rfl) (by kernel_rfl) (fun _ _ _ h => h) (Or.inl ⟨by rfl, ?_⟩) (by assumption) ?_
        rotate_left
        · intro wS hSw; (try dsimp only at hSw); go_simp; try with_reducible rfl
        try simp only [Act.put, List.setIfInBounds_toArray, List.set_cons_zero, List.set_cons_succ]
        refine Zed.take (i := 16) (oi := ⟨some 68, _, _, _, _, _⟩) (v := ?_) rfl (by kernel_rfl) (by kernel_rfl) (by kernel_rfl) (by kernel_rfl) (fun _ _ _ h => h) (Or.inl ⟨by rfl, ?_⟩) (by assumption) ?_
        rotate_left
        · intro wS hSw; (try dsimp only at hSw); go_simp; try with_reducible rfl
        try simp only [Act.put, List.setIfInBounds_toArray, List.set_cons_zero, List.set_cons_succ]
        refine Zed.take (i := 17) (oi := ⟨some 69, _, _, _, _, _⟩) (v := ?_) rfl (by kernel_rfl) (by kernel_rfl) (by kernel_rfl) (by kernel_rfl) (fun _ _ _ h => h) (Or.inl ⟨by rfl, ?_⟩) (by assumption) ?_
        rotate_left
        · intro wS hSw; (try dsimp only at hSw); go_simp; try with_reducible rfl
        try simp only [Act.put, List.setIfInBounds_toArray, List.set_cons_zero, List.set_cons_succ]
        refine Zed.take (i := 18) (oi := ⟨some 70, _, _, _, _, _⟩) (v := ?_) rfl (by kernel_rfl) (by kernel_rfl) (by kernel_rfl) (by kernel_rfl) (fun _ _ _ h => h) (Or.inl ⟨by rfl, ?_⟩) (by assumption) ?_
        rotate_left
        · intro wS hSw; (try dsimp only at hSw); go_simp; try with_reducible rfl
        try simp only [Act.put, List.setIfInBounds_toArray, List.set_cons_zero, List.set_cons_succ]
        refine Zed.take (i := 19) (oi := ⟨some 71, _, _, _, _, _⟩) (v := ?_) rfl (by kernel_rfl) (by kernel_rfl) (by kernel_rfl) (by kernel_rfl) (fun _ _ _ h => h) (Or.inl ⟨by rfl, ?_⟩) (by assumption) ?_
        rotate_left
        · intro wS hSw; (try dsimp only at hSw); go_simp; try with_reducible rfl
        try simp only [Act.put, List.setIfInBounds_toArray, List.set_cons_zero, List.set_cons_succ]
        refine Zed.take (i := 20) (oi := ⟨some 72, _, _, _, _, _⟩) (v := ?_) rfl (by kernel_rfl) (by kernel_rfl) (by kernel_rfl) (by kernel_rfl) (fun _ _ _ h => h) (Or.inl ⟨by rfl, ?_⟩) (by assumption) ?_
        rotate_left
        · intro wS hSw; (try dsimp only at hSw); go_simp; try with_reducible rfl
        try simp only [Act.put, List.setIfInBounds_toArray, List.set_cons_zero, List.set_cons_succ]
        refine Zed.take (i := 21) (oi := ⟨some 73, _, _, _, _, _⟩) (v := ?_) rfl (by kernel_rfl) (by kernel_rfl) (by kernel_rfl) (by kernel_rfl) (fun _ _ _ h => h) (Or.inl ⟨by rfl, ?_⟩) (by assumption) ?_
        rotate_left
        · intro wS hSw; (try dsimp only at hSw); go_simp; try with_reducible rfl
        try simp only [Act.put, List.setIfInBounds_toArray, List.set_cons_zero, List.set_cons_succ]
        refine Zed.take (i := 22) (oi := ⟨some 74, _, _, _, _, _⟩) (v := ?_) rfl (by kernel_rfl) (by kernel_rfl) (by kernel_rfl) (by kernel_rfl) (fun _ _ _ h => h) (Or.inl ⟨by rfl, ?_⟩) (by assumption) ?_
        rotate_left
        · intro wS hSw; (try dsimp only at hSw); go_simp; try with_reducible rfl
        try simp only [Act.put, List.setIfInBounds_toArray, List.set_cons_zero, List.set_cons_succ]
        refine Zed.take (i := 23) (oi := ⟨some 75, _, _, _, _, _⟩) (v := ?_) rfl (by kernel_rfl) (by kernel_rfl) (by kernel_rfl) (by kernel_rfl) (fun _ _ _ h => h) (Or.inl ⟨by rfl, ?_⟩) (by assumption) ?_
        rotate_left
        · intro wS hSw; (try dsimp only at hSw); go_simp; try with_reducible rfl
        try simp only [Act.put, List.setIfInBounds_toArray, List.set_cons_zero, List.set_cons_succ]
        refine Zed.take (i := 24) (oi := ⟨some 76, _, _, _, _, _⟩) (v := ?_) rfl (by kernel_rfl) (by kernel_rfl) (by kernel_rfl) (by kernel_rfl) (fun _ _ _ h => h) (Or.inl ⟨by rfl, ?_⟩) (by assumption) ?_
        rotate_left
        · intro wS hSw; (try dsimp only at hSw); go_simp; try with_reducible rfl
        try simp only [Act.put, List.setIfInBounds_toArray, List.set_cons_zero, List.set_cons_succ]
        refine Zed.take (i := 25) (oi := ⟨some 77, _, _, _, _, _⟩) (v := ?_) rfl (by kernel_rfl) (by kernel_rfl) (by kernel_rfl) (by kernel_rfl) (fun _ _ _ h => h) (Or.inl ⟨by rfl, ?_⟩) (by assumption) ?_
        rotate_left
        · intro wS hSw; (try dsimp only at hSw); go_simp; try with_reducible rfl
        try simp only [Act.put, List.setIfInBounds_toArray, List.set_cons_zero, List.set_cons_succ]
        refine Zed.ready (rs := [5]) (by kernel_rfl) (by simp) ?_
        refine Zeach.cons (o := ⟨some 57, _, _, _, _, _⟩) rfl (fun K hK => ?_) Zeach.nil
        go_simp
        refine hK.out _ _ (HKS.out _ (by first | exact bd0 | exact bal bd0 _ | exact B1.out | exact C1.out)) (fun hHeld => ?_)
        clear hK K
        try simp only [Act.put, List.setIfInBounds_toArray, List.set_cons_zero, List.set_cons_succ]
        refine Zed.ready (rs := [15]) (by kernel_rfl) (by simp) ?_
        refine Zeach.cons (o := ⟨some 67, _, _, _, _, _⟩) rfl (fun K hK => ?_) Zeach.nil
        refine step_append_run (.tmp 57) (.tmp 66) 43 _ _ _ HRa.out rfl rfl (by simp [Act.eval, Act.put]) (by simp [Act.eval, Act.put]) ?_
        refine hK.out _ _ (HKS.out _ (by first | exact bd0 | exact bal bd0 _ | exact B1.out | exact C1.out)) (fun hHeld => ?_)
        clear hK K
        try simp only [Act.put, List.setIfInBounds_toArray, List.set_cons_zero, List.set_cons_succ]
        refine Zed.ready (rs := [26]) (by kernel_rfl) (by simp) ?_
        refine Zeach.cons (o := ⟨some 78, _, _, _, _, _⟩) rfl (fun K hK => ?_) Zeach.nil
        refine step_append_run (.tmp 67) (.tmp 77) 43 _ _ _ HRb.out rfl rfl (by simp [Act.eval, Act.put]) (by simp [Act.eval, Act.put]) ?_
        refine hK.out _ _ (HKS.out _ (by first | exact bd0 | exact bal bd0 _ | exact B1.out | exact C1.out)) (fun hHeld => ?_)
        clear hK K
        try simp only [Act.put, List.setIfInBounds_toArray, List.set_cons_zero, List.set_cons_succ]
        refine Zed.take (i := 27) (oi := ⟨some 79, _, _, _, _, _⟩) (v := ?_) rfl (by kernel_rfl) (by kernel_rfl) (by kernel_rfl) (by kernel_rfl) (fun _ _ _ h => h) (Or.inl ⟨by rfl, ?_⟩) (by assumption) ?_
        rotate_left
        · intro wS hSw; (try dsimp only at hSw); go_simp; try with_reducible rfl
        try simp only [Act.put, List.setIfInBounds_toArray, List.set_cons_zero, List.set_cons_succ]
        refine Zed.ready (rs := [28]) (by kernel_rfl) (by simp) ?_
        refine Zeach.last (o := ⟨none, _, _, _, _, _⟩) rfl (fun K hK => ?_)
        go_simp
        refine hK.out _ _ ?_
        clear hK K
        try simp only [Act.put, List.setIfInBounds_toArray, List.set_cons_zero, List.set_cons_succ]
        refine Zed.done (by kernel_rfl) ?_ _
        clear hA9
        go_wp2_with fail
        go_ret
        exact ⟨ret1_b F1.out.1, F1.out.2⟩
      · have HX := Lib.hid (ix_more hx hne2 hix)
        by_cases e1 : x = h
        · subst e1
          have h2 : ¬ y = id := fun e => hne2 (by rw [e])
          have hq1 : (y == id) = false := by simpa using h2
          have hq2 : decide (y = id) = false := decide_eq_false h2
          clear hx hix hne2
          go_wp2_with fail
          go_round
          case rel => exact ⟨k + 1, by omega, by go_num, HX.out⟩
          case measure => simp [intOf]; omega
        · have hq1 : (x == h) = false := by simpa using e1
          have hq2 : decide (x = h) = false := decide_eq_false e1
          clear hx hix hne2
          go_wp2_with fail
          go_round
          case rel => exact ⟨k + 1, by omega, by go_num, HX.out⟩
          case measure => simp [intOf]; omega
    · have HF := Lib.hid (HNO.out (by omega))
      obtain rfl : k = l.length := by omega
      clear hix
      go_wp2_with fail
      go_ret
      exact ⟨ret1_b HF.out.1, HF.out.2⟩
end Go.Proofs.Ytjipncpplpfobaa.Lb
