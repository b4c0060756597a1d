/- need.Sum and tenureref13.Sum, by contracts. -/
import Derived.Test.YtofinjkgbbdbcaaNeed2
namespace Go.Proofs.Ytofinjkgbbdbcaa.Nd
open Go.RowKit K Ar
set_option linter.unusedVariables false
set_option linter.unusedSimpArgs false

theorem sum_bad {k b : Int} {l : List Tm} (h : badP k b) : (0 : Int) = sumsN k b l ∧ (2 : Int) = sumsE k b l := by
  unfold sumsN sumsE
  rw [if_pos h, if_pos h]
  exact ⟨rfl, rfl⟩
theorem sum_ok {k b : Int} {l : List Tm} (h : ¬ badP k b) : sumsN k b l = sumN k l (base k b) ∧ sumsE k b l = sumE l := by
  unfold sumsN sumsE
  rw [if_neg h, if_neg h]
  exact ⟨rfl, rfl⟩
/-- So far: the rest of the sum from a on. -/
def SumRel (w : World) (k a0 : Int) (l : List Tm) (s i : Value) (wr : World) : Prop :=
  ∃ (j : Nat) (a : Int), j ≤ l.length ∧ s = .int .i64 a ∧ i = .int .i64 (j : Int) ∧ 0 ≤ a ∧ a ≤ 1048592 + 131078 * (j : Int) ∧ sumN k l a0 = sumN k (l.drop j) a ∧ sumE l = sumE (l.drop j) ∧ Below w.heap.size w wr
theorem sum_start {w wr : World} {k b : Int} {l : List Tm} (h : Below w.heap.size w wr) : SumRel w k (base k b) l (.int .i64 (base k b)) (.int .i64 0) wr := by
  have := base_range k b
  exact ⟨0, base k b, Nat.zero_le _, rfl, rfl, by omega, by omega, rfl, rfl, h⟩
theorem sum_step {k a : Int} {l : List Tm} {j : Nat} {u : Tm} (hu : l[j]? = some u) (h : objE u = 0) : sumN k (l.drop j) a = sumN k (l.drop (j + 1)) (a + (objN u + nodeK k)) ∧ sumE (l.drop j) = sumE (l.drop (j + 1)) := by
  have h : chk u = 0 := h
  have hj : j < l.length := by
    rcases Nat.lt_or_ge j l.length with h | h
    · exact h
    · rw [List.getElem?_eq_none h] at hu; cases hu
  rw [List.getElem?_eq_getElem hj] at hu
  injection hu with hu
  rw [List.drop_eq_getElem_cons hj, hu]
  constructor
  · rw [sumN, if_pos h]
    unfold objN
    rw [if_pos h]
  · rw [sumE, if_pos h]
theorem sum_stop {k a : Int} {l : List Tm} {j : Nat} {u : Tm} (hu : l[j]? = some u) (h : objE u ≠ 0) : sumN k (l.drop j) a = 0 ∧ sumE (l.drop j) = objE u := by
  have h : chk u ≠ 0 := h
  have hj : j < l.length := by
    rcases Nat.lt_or_ge j l.length with h | h
    · exact h
    · rw [List.getElem?_eq_none h] at hu; cases hu
  rw [List.getElem?_eq_getElem hj] at hu
  injection hu with hu
  rw [List.drop_eq_getElem_cons hj, hu]
  constructor
  · rw [sumN, if_neg h]
  · rw [sumE, if_neg h]; rfl
theorem sum_end {k a : Int} {l : List Tm} : sumN k (l.drop l.length) a = a ∧ sumE (l.drop l.length) = 0 := by
  rw [List.drop_length]
  exact ⟨rfl, rfl⟩

set_option maxRecDepth 100000 in
set_option maxHeartbeats 8000000 in
theorem sum_any (k b : Int) (l : List Tm) (A : Option Addr) (c : Nat) (w : World) (h : TsA w A l) (hn : nodesL l ≤ 1048576) : Calls Try.prog 21 #[.int .i64 k, .int .i64 b, .slice A l.length c] w fun e w' => e = .returned (.tuple #[.int .i64 (sumsN k b l), .int .i64 (sumsE k b l)]) ∧ Below w.heap.size w w' := by
  have hlen : l.length ≤ 1048576 := Nat.le_trans (nodesL_len l) hn
  have HL := Lib.hid h
  have HO := Lib.hid (fun (u : Tm) v w (hm : u ∈ l) h => obj_any u v w h (Nat.le_trans (nodesL_mem hm) hn))
  have HNd := Lib.hid (fun w => node_any k w)
  have HTb := Lib.hid (fun w => table_any k w)
  have HBk := Lib.hid (fun b w => bkt_any b w)
  clear h hn
  have HBd := Lib.hid (fun w => bad_any k b w)
  by_cases hb : badP k b
  · have hd : decide (badP k b) = true := decide_eq_true hb
    have HE := Lib.hid (sum_bad (l := l) hb)
    clear hb
    go_enter Try.func21, Try.ntmps21
    go_wp2_with fail
    refine (HBd.out _).mono ?_
    rintro e w2 ⟨rfl, hb2⟩
    rw [hd]
    have HB2 := Lib.hid hb2
    clear hb2
    go_wp2_with fail
    go_ret2
    exact ⟨ret2_ii HE.out.1 HE.out.2, HB2.out⟩
  have hd : decide (badP k b) = false := decide_eq_false hb
  have HE := Lib.hid (sum_ok (l := l) hb)
  have HS := Lib.hid (fun wr (h : Below w.heap.size w wr) => sum_start (k := k) (b := b) (l := l) h)
  have tr : 0 ≤ tableK k ∧ tableK k ≤ 16 := by unfold tableK; split <;> omega
  have br := bktN_range b
  have nk := nodeK_range k
  have hbase : base k b = tableK k + (if k = 2 then 0 else bktN b) := rfl
  obtain ⟨a0, ha0⟩ : ∃ a, base k b = a := ⟨_, rfl⟩
  obtain ⟨tb, htb⟩ : ∃ a, tableK k = a := ⟨_, rfl⟩
  obtain ⟨bb, hbb⟩ : ∃ a, bktN b = a := ⟨_, rfl⟩
  obtain ⟨nd, hnd⟩ : ∃ a, nodeK k = a := ⟨_, rfl⟩
  rw [ha0] at HE HS hbase
  rw [htb] at HTb hbase tr
  rw [hbb] at hbase br
  rw [hnd] at HNd nk
  have HBb := Lib.hid (fun w => hbb ▸ HBk.out b w)
  have HND := Lib.hid hnd
  clear htb hbb hnd hb ha0 HBk
  obtain ⟨n1, n2⟩ := nk
  obtain ⟨t1, t2⟩ := tr
  obtain ⟨b1, b2⟩ := br
  by_cases k2 : k = 2
  · obtain rfl : a0 = tb := by rw [hbase, if_pos k2]; omega
    have kb : (k != 2) = false := by simp [k2]
    have kb2 : (k == 2) = true := by simp [k2]
    clear hbase k2
    go_enter Try.func21, Try.ntmps21
    go_wp2_with fail
    refine (HBd.out _).mono ?_
    rintro e w2 ⟨rfl, hb2⟩
    rw [hd]
    have HB2 := Lib.hid hb2
    clear hb2
    go_wp2_with fail
    refine (HTb.out _).mono ?_
    rintro e w3 ⟨rfl, hb3⟩
    have HB3 := Lib.hid (bnext HB2.out hb3)
    clear hb3
    go_wp2_with fail
    go_loopw [8, 26] (fun s i wr => SumRel w k a0 l s i wr) (fun _ i _ => l.length - (intOf i).toNat)
    case atStart => exact HS.out _ HB3.out
    case round =>
      obtain ⟨j, a, hj, rfl, rfl, g1, g2, hN, hE, hb⟩ := hrel
      have HB := Lib.hid hb
      have HN := Lib.hid hN
      have HEE := Lib.hid hE
      clear hb hN hE
      by_cases hlt : j < l.length
      · obtain ⟨u, hu⟩ : ∃ u, l[j]? = some u := ⟨_, List.getElem?_eq_getElem hlt⟩
        have HM := Lib.hid (List.mem_of_getElem? hu)
        have HST := Lib.hid (fun h => sum_step (k := k) (a := a) hu h)
        have HSP := Lib.hid (fun h => sum_stop (k := k) (a := a) hu h)
        have ho := obj_range u
        obtain ⟨bl, o, A1, c1, rfl, hbl, d0, d1, d2, d3, hta, _⟩ := (HL.out.later HB.out).at_ hu
        obtain ⟨wb, hwb⟩ : ∃ wb, wr.alloc (.cells #[.int .i64 u.k, .int .i64 u.n, .string u.s, .slice A1 u.l.length c1] 24) = wb := ⟨_, rfl⟩
        have HTA := Lib.hid (show TA wb u _ from by rw [← hwb]; exact hta.later (ballocs (Below.refl wr.heap.size wr) _))
        have HBB := Lib.hid (show Below w.heap.size w wb from by rw [← hwb]; exact ballocs HB.out _)
        have HWB := Lib.hid hwb
        clear hta hwb
        obtain ⟨y, hy⟩ : ∃ y, objN u = y := ⟨_, rfl⟩
        obtain ⟨x, hx⟩ : ∃ x, objE u = x := ⟨_, rfl⟩
        rw [hy] at ho HST
        rw [HND.out] at HST
        obtain ⟨o1, o2⟩ := ho
        have hxy := hy
        by_cases h0 : x = 0
        · subst h0
          have HX := Lib.hid hx
          have HY := Lib.hid hy
          clear hx hy hxy hu
          go_wp2_with fail
          rw [HWB.out]
          refine (HO.out u _ _ HM.out HTA.out).mono ?_
          rintro e w5 ⟨rfl, hb5⟩
          have HB5 := Lib.hid (bnext HBB.out hb5)
          rw [HX.out, HY.out]
          clear hb5
          go_wp2_with fail
          refine (HNd.out _).mono ?_
          rintro e w6 ⟨rfl, hb6⟩
          have HB6 := Lib.hid (bnext HB5.out hb6)
          clear hb6
          go_wp2_with fail
          go_roundw
          case rel => exact ⟨j + 1, a + (y + nd), by omega, by go_num, by go_num, by omega, by omega, by rw [HN.out, (HST.out HX.out).1], by rw [HEE.out, (HST.out HX.out).2], HB6.out⟩
          case measure => simp [intOf]; omega
        · have hne : (x != 0) = true := by simpa using h0
          have hne2 : (x == 0) = false := by simpa using h0
          have HX := Lib.hid hx
          have HY := Lib.hid hy
          clear hx hy hxy hu
          go_wp2_with fail
          rw [HWB.out]
          refine (HO.out u _ _ HM.out HTA.out).mono ?_
          rintro e w5 ⟨rfl, hb5⟩
          have HB5 := Lib.hid (bnext HBB.out hb5)
          rw [HX.out, HY.out]
          clear hb5
          go_wp2_with fail
          go_ret2
          exact ⟨ret2_ii (by rw [HE.out.1, HN.out]; exact (HSP.out (by rw [HX.out]; exact h0)).1.symm) (by rw [HE.out.2, HEE.out, ← HX.out]; exact (HSP.out (by rw [HX.out]; exact h0)).2.symm), HB5.out⟩
      · obtain rfl : j = l.length := by omega
        go_wp2_with fail
        go_ret2
        exact ⟨ret2_ii (by rw [HE.out.1, HN.out]; exact (sum_end (k := k) (a := a)).1.symm) (by rw [HE.out.2, HEE.out]; exact (sum_end (k := k) (a := a)).2.symm), HB.out⟩
  · obtain rfl : a0 = tb + bb := by rw [hbase, if_neg k2]
    have kb : (k != 2) = true := by simpa using k2
    have kb2 : (k == 2) = false := by simpa using k2
    clear hbase
    go_enter Try.func21, Try.ntmps21
    go_wp2_with fail
    refine (HBd.out _).mono ?_
    rintro e w2 ⟨rfl, hb2⟩
    rw [hd]
    have HB2 := Lib.hid hb2
    clear hb2
    go_wp2_with fail
    refine (HTb.out _).mono ?_
    rintro e w3 ⟨rfl, hb3⟩
    have HB3 := Lib.hid (bnext HB2.out hb3)
    clear hb3
    go_wp2_with fail
    refine (HBb.out _).mono ?_
    rintro e w4 ⟨rfl, rfl⟩
    go_wp2_with fail
    go_loopw [8, 26] (fun s i wr => SumRel w k (tb + bb) l s i wr) (fun _ i _ => l.length - (intOf i).toNat)
    case atStart => exact HS.out _ HB3.out
    case round =>
      obtain ⟨j, a, hj, rfl, rfl, g1, g2, hN, hE, hb⟩ := hrel
      have HB := Lib.hid hb
      have HN := Lib.hid hN
      have HEE := Lib.hid hE
      clear hb hN hE
      by_cases hlt : j < l.length
      · obtain ⟨u, hu⟩ : ∃ u, l[j]? = some u := ⟨_, List.getElem?_eq_getElem hlt⟩
        have HM := Lib.hid (List.mem_of_getElem? hu)
        have HST := Lib.hid (fun h => sum_step (k := k) (a := a) hu h)
        have HSP := Lib.hid (fun h => sum_stop (k := k) (a := a) hu h)
        have ho := obj_range u
        obtain ⟨bl, o, A1, c1, rfl, hbl, d0, d1, d2, d3, hta, _⟩ := (HL.out.later HB.out).at_ hu
        obtain ⟨wb, hwb⟩ : ∃ wb, wr.alloc (.cells #[.int .i64 u.k, .int .i64 u.n, .string u.s, .slice A1 u.l.length c1] 24) = wb := ⟨_, rfl⟩
        have HTA := Lib.hid (show TA wb u _ from by rw [← hwb]; exact hta.later (ballocs (Below.refl wr.heap.size wr) _))
        have HBB := Lib.hid (show Below w.heap.size w wb from by rw [← hwb]; exact ballocs HB.out _)
        have HWB := Lib.hid hwb
        clear hta hwb
        obtain ⟨y, hy⟩ : ∃ y, objN u = y := ⟨_, rfl⟩
        obtain ⟨x, hx⟩ : ∃ x, objE u = x := ⟨_, rfl⟩
        rw [hy] at ho HST
        rw [HND.out] at HST
        obtain ⟨o1, o2⟩ := ho
        have hxy := hy
        by_cases h0 : x = 0
        · subst h0
          have HX := Lib.hid hx
          have HY := Lib.hid hy
          clear hx hy hxy hu
          go_wp2_with fail
          rw [HWB.out]
          refine (HO.out u _ _ HM.out HTA.out).mono ?_
          rintro e w5 ⟨rfl, hb5⟩
          have HB5 := Lib.hid (bnext HBB.out hb5)
          rw [HX.out, HY.out]
          clear hb5
          go_wp2_with fail
          refine (HNd.out _).mono ?_
          rintro e w6 ⟨rfl, hb6⟩
          have HB6 := Lib.hid (bnext HB5.out hb6)
          clear hb6
          go_wp2_with fail
          go_roundw
          case rel => exact ⟨j + 1, a + (y + nd), by omega, by go_num, by go_num, by omega, by omega, by rw [HN.out, (HST.out HX.out).1], by rw [HEE.out, (HST.out HX.out).2], HB6.out⟩
          case measure => simp [intOf]; omega
        · have hne : (x != 0) = true := by simpa using h0
          have hne2 : (x == 0) = false := by simpa using h0
          have HX := Lib.hid hx
          have HY := Lib.hid hy
          clear hx hy hxy hu
          go_wp2_with fail
          rw [HWB.out]
          refine (HO.out u _ _ HM.out HTA.out).mono ?_
          rintro e w5 ⟨rfl, hb5⟩
          have HB5 := Lib.hid (bnext HBB.out hb5)
          rw [HX.out, HY.out]
          clear hb5
          go_wp2_with fail
          go_ret2
          exact ⟨ret2_ii (by rw [HE.out.1, HN.out]; exact (HSP.out (by rw [HX.out]; exact h0)).1.symm) (by rw [HE.out.2, HEE.out, ← HX.out]; exact (HSP.out (by rw [HX.out]; exact h0)).2.symm), HB5.out⟩
      · obtain rfl : j = l.length := by omega
        go_wp2_with fail
        go_ret2
        exact ⟨ret2_ii (by rw [HE.out.1, HN.out]; exact (sum_end (k := k) (a := a)).1.symm) (by rw [HE.out.2, HEE.out]; exact (sum_end (k := k) (a := a)).2.symm), HB.out⟩

set_option maxRecDepth 100000 in
set_option maxHeartbeats 8000000 in
theorem rsum_any (k b : Int) (l : List Tm) (A : Option Addr) (c : Nat) (w : World) (h : TsA w A l) (hn : nodesL l ≤ 1048576) : Calls Try.prog 22 #[.int .i64 k, .int .i64 b, .slice A l.length c] w fun e w' => e = .returned (.tuple #[.int .i64 (sumsN k b l), .int .i64 (sumsE k b l)]) ∧ Below w.heap.size w w' := by
  have hlen : l.length ≤ 1048576 := Nat.le_trans (nodesL_len l) hn
  have HL := Lib.hid h
  have HO := Lib.hid (fun (u : Tm) v w (hm : u ∈ l) h => robj_any u v w h (Nat.le_trans (nodesL_mem hm) hn))
  have HNd := Lib.hid (fun w => rnode_any k w)
  have HTb := Lib.hid (fun w => rtable_any k w)
  have HBk := Lib.hid (fun b w => rbkt_any b w)
  clear h hn
  have HKd := Lib.hid (fun w => rkind_any k w)
  by_cases hk : 1 ≤ k ∧ k ≤ 4
  case neg =>
    have hb : badP k b := .inl hk
    have hd : decide (1 ≤ k ∧ k ≤ 4) = false := decide_eq_false hk
    have HE := Lib.hid (sum_bad (l := l) hb)
    clear hb hk
    go_enter Try.func22, Try.ntmps22
    go_wp2_with fail
    refine (HKd.out _).mono ?_
    rintro e w2 ⟨rfl, rfl⟩
    rw [hd]
    have HB2 := Lib.hid (Below.refl w.heap.size w)
    go_wp2_with fail
    go_ret2
    exact ⟨ret2_ii HE.out.1 HE.out.2, HB2.out⟩
  have hd : decide (1 ≤ k ∧ k ≤ 4) = true := decide_eq_true hk
  by_cases hb0 : b < 0
  · have hb : badP k b := .inr (.inl hb0)
    have HE := Lib.hid (sum_bad (l := l) hb)
    clear hb hk
    go_enter Try.func22, Try.ntmps22
    go_wp2_with fail
    refine (HKd.out _).mono ?_
    rintro e w2 ⟨rfl, rfl⟩
    rw [hd]
    have HB2 := Lib.hid (Below.refl w.heap.size w)
    go_wp2_with fail
    go_ret2
    exact ⟨ret2_ii HE.out.1 HE.out.2, HB2.out⟩
  have hq0 : ¬ b < 0 := hb0
  clear hb0
  by_cases hb0 : 1048576 < b
  · have hb : badP k b := .inr (.inr hb0)
    have HE := Lib.hid (sum_bad (l := l) hb)
    clear hb hk
    go_enter Try.func22, Try.ntmps22
    go_wp2_with fail
    refine (HKd.out _).mono ?_
    rintro e w2 ⟨rfl, rfl⟩
    rw [hd]
    have HB2 := Lib.hid (Below.refl w.heap.size w)
    go_wp2_with fail
    go_ret2
    exact ⟨ret2_ii HE.out.1 HE.out.2, HB2.out⟩
  have hq1 : ¬ 1048576 < b := hb0
  clear hb0
  have hb : ¬ badP k b := fun h => by unfold badP at h; omega
  clear hk
  have HE := Lib.hid (sum_ok (l := l) hb)
  have HS := Lib.hid (fun wr (h : Below w.heap.size w wr) => sum_start (k := k) (b := b) (l := l) h)
  have tr : 0 ≤ tableK k ∧ tableK k ≤ 16 := by unfold tableK; split <;> omega
  have br := bktN_range b
  have nk := nodeK_range k
  have hbase : base k b = tableK k + (if k = 2 then 0 else bktN b) := rfl
  obtain ⟨a0, ha0⟩ : ∃ a, base k b = a := ⟨_, rfl⟩
  obtain ⟨tb, htb⟩ : ∃ a, tableK k = a := ⟨_, rfl⟩
  obtain ⟨bb, hbb⟩ : ∃ a, bktN b = a := ⟨_, rfl⟩
  obtain ⟨nd, hnd⟩ : ∃ a, nodeK k = a := ⟨_, rfl⟩
  rw [ha0] at HE HS hbase
  rw [htb] at HTb hbase tr
  rw [hbb] at hbase br
  rw [hnd] at HNd nk
  have HBb := Lib.hid (fun w => hbb ▸ HBk.out b w)
  have HND := Lib.hid hnd
  clear htb hbb hnd hb ha0 HBk
  obtain ⟨n1, n2⟩ := nk
  obtain ⟨t1, t2⟩ := tr
  obtain ⟨b1, b2⟩ := br
  by_cases k2 : k = 2
  · obtain rfl : a0 = tb := by rw [hbase, if_pos k2]; omega
    have kb : (k != 2) = false := by simp [k2]
    have kb2 : (k == 2) = true := by simp [k2]
    clear hbase k2
    go_enter Try.func22, Try.ntmps22
    go_wp2_with fail
    refine (HKd.out _).mono ?_
    rintro e w2 ⟨rfl, rfl⟩
    rw [hd]
    have HB2 := Lib.hid (Below.refl w.heap.size w)
    go_wp2_with fail
    refine (HTb.out _).mono ?_
    rintro e w3 ⟨rfl, rfl⟩
    have HB3 := HB2
    go_wp2_with fail
    go_loopw [8, 9] (fun s i wr => SumRel w k a0 l s i wr) (fun _ i _ => l.length - (intOf i).toNat)
    case atStart => exact HS.out _ HB3.out
    case round =>
      obtain ⟨j, a, hj, rfl, rfl, g1, g2, hN, hE, hb⟩ := hrel
      have HB := Lib.hid hb
      have HN := Lib.hid hN
      have HEE := Lib.hid hE
      clear hb hN hE
      by_cases hlt : j < l.length
      · obtain ⟨u, hu⟩ : ∃ u, l[j]? = some u := ⟨_, List.getElem?_eq_getElem hlt⟩
        have HM := Lib.hid (List.mem_of_getElem? hu)
        have HST := Lib.hid (fun h => sum_step (k := k) (a := a) hu h)
        have HSP := Lib.hid (fun h => sum_stop (k := k) (a := a) hu h)
        have ho := obj_range u
        obtain ⟨bl, o, A1, c1, rfl, hbl, d0, d1, d2, d3, hta, _⟩ := (HL.out.later HB.out).at_ hu
        have HTA := Lib.hid hta
        clear hta
        obtain ⟨y, hy⟩ : ∃ y, objN u = y := ⟨_, rfl⟩
        obtain ⟨x, hx⟩ : ∃ x, objE u = x := ⟨_, rfl⟩
        rw [hy] at ho HST
        rw [HND.out] at HST
        obtain ⟨o1, o2⟩ := ho
        have hxy := hy
        by_cases h0 : x = 0
        · subst h0
          have HX := Lib.hid hx
          have HY := Lib.hid hy
          clear hx hy hxy hu
          go_wp2_with fail
          refine (HO.out u _ _ HM.out HTA.out).mono ?_
          rintro e w5 ⟨rfl, hb5⟩
          have HB5 := Lib.hid (bnext HB.out hb5)
          rw [HX.out, HY.out]
          clear hb5
          go_wp2_with fail
          refine (HNd.out _).mono ?_
          rintro e w6 ⟨rfl, rfl⟩
          have HB6 := HB5
          go_wp2_with fail
          go_roundw
          case rel => exact ⟨j + 1, a + (y + nd), by omega, by go_num, by go_num, by omega, by omega, by rw [HN.out, (HST.out HX.out).1], by rw [HEE.out, (HST.out HX.out).2], HB6.out⟩
          case measure => simp [intOf]; omega
        · have hne : (x != 0) = true := by simpa using h0
          have hne2 : (x == 0) = false := by simpa using h0
          have HX := Lib.hid hx
          have HY := Lib.hid hy
          clear hx hy hxy hu
          go_wp2_with fail
          refine (HO.out u _ _ HM.out HTA.out).mono ?_
          rintro e w5 ⟨rfl, hb5⟩
          have HB5 := Lib.hid (bnext HB.out hb5)
          rw [HX.out, HY.out]
          clear hb5
          go_wp2_with fail
          go_ret2
          exact ⟨ret2_ii (by rw [HE.out.1, HN.out]; exact (HSP.out (by rw [HX.out]; exact h0)).1.symm) (by rw [HE.out.2, HEE.out, ← HX.out]; exact (HSP.out (by rw [HX.out]; exact h0)).2.symm), HB5.out⟩
      · obtain rfl : j = l.length := by omega
        go_wp2_with fail
        go_ret2
        exact ⟨ret2_ii (by rw [HE.out.1, HN.out]; exact (sum_end (k := k) (a := a)).1.symm) (by rw [HE.out.2, HEE.out]; exact (sum_end (k := k) (a := a)).2.symm), HB.out⟩
  · obtain rfl : a0 = tb + bb := by rw [hbase, if_neg k2]
    have kb : (k != 2) = true := by simpa using k2
    have kb2 : (k == 2) = false := by simpa using k2
    clear hbase
    go_enter Try.func22, Try.ntmps22
    go_wp2_with fail
    refine (HKd.out _).mono ?_
    rintro e w2 ⟨rfl, rfl⟩
    rw [hd]
    have HB2 := Lib.hid (Below.refl w.heap.size w)
    go_wp2_with fail
    refine (HTb.out _).mono ?_
    rintro e w3 ⟨rfl, rfl⟩
    have HB3 := HB2
    go_wp2_with fail
    refine (HBb.out _).mono ?_
    rintro e w4 ⟨rfl, rfl⟩
    go_wp2_with fail
    go_loopw [8, 9] (fun s i wr => SumRel w k (tb + bb) l s i wr) (fun _ i _ => l.length - (intOf i).toNat)
    case atStart => exact HS.out _ HB3.out
    case round =>
      obtain ⟨j, a, hj, rfl, rfl, g1, g2, hN, hE, hb⟩ := hrel
      have HB := Lib.hid hb
      have HN := Lib.hid hN
      have HEE := Lib.hid hE
      clear hb hN hE
      by_cases hlt : j < l.length
      · obtain ⟨u, hu⟩ : ∃ u, l[j]? = some u := ⟨_, List.getElem?_eq_getElem hlt⟩
        have HM := Lib.hid (List.mem_of_getElem? hu)
        have HST := Lib.hid (fun h => sum_step (k := k) (a := a) hu h)
        have HSP := Lib.hid (fun h => sum_stop (k := k) (a := a) hu h)
        have ho := obj_range u
        obtain ⟨bl, o, A1, c1, rfl, hbl, d0, d1, d2, d3, hta, _⟩ := (HL.out.later HB.out).at_ hu
        have HTA := Lib.hid hta
        clear hta
        obtain ⟨y, hy⟩ : ∃ y, objN u = y := ⟨_, rfl⟩
        obtain ⟨x, hx⟩ : ∃ x, objE u = x := ⟨_, rfl⟩
        rw [hy] at ho HST
        rw [HND.out] at HST
        obtain ⟨o1, o2⟩ := ho
        have hxy := hy
        by_cases h0 : x = 0
        · subst h0
          have HX := Lib.hid hx
          have HY := Lib.hid hy
          clear hx hy hxy hu
          go_wp2_with fail
          refine (HO.out u _ _ HM.out HTA.out).mono ?_
          rintro e w5 ⟨rfl, hb5⟩
          have HB5 := Lib.hid (bnext HB.out hb5)
          rw [HX.out, HY.out]
          clear hb5
          go_wp2_with fail
          refine (HNd.out _).mono ?_
          rintro e w6 ⟨rfl, rfl⟩
          have HB6 := HB5
          go_wp2_with fail
          go_roundw
          case rel => exact ⟨j + 1, a + (y + nd), by omega, by go_num, by go_num, by omega, by omega, by rw [HN.out, (HST.out HX.out).1], by rw [HEE.out, (HST.out HX.out).2], HB6.out⟩
          case measure => simp [intOf]; omega
        · have hne : (x != 0) = true := by simpa using h0
          have hne2 : (x == 0) = false := by simpa using h0
          have HX := Lib.hid hx
          have HY := Lib.hid hy
          clear hx hy hxy hu
          go_wp2_with fail
          refine (HO.out u _ _ HM.out HTA.out).mono ?_
          rintro e w5 ⟨rfl, hb5⟩
          have HB5 := Lib.hid (bnext HB.out hb5)
          rw [HX.out, HY.out]
          clear hb5
          go_wp2_with fail
          go_ret2
          exact ⟨ret2_ii (by rw [HE.out.1, HN.out]; exact (HSP.out (by rw [HX.out]; exact h0)).1.symm) (by rw [HE.out.2, HEE.out, ← HX.out]; exact (HSP.out (by rw [HX.out]; exact h0)).2.symm), HB5.out⟩
      · obtain rfl : j = l.length := by omega
        go_wp2_with fail
        go_ret2
        exact ⟨ret2_ii (by rw [HE.out.1, HN.out]; exact (sum_end (k := k) (a := a)).1.symm) (by rw [HE.out.2, HEE.out]; exact (sum_end (k := k) (a := a)).2.symm), HB.out⟩

end Go.Proofs.Ytofinjkgbbdbcaa.Nd
