/- pattern.parts: the iterator over the parts of a pattern that have none themselves. -/
import Derived.Test.YtlaplakaifmpeaaPatSet
import Derived.Sort.LoopGhostIn
import Derived.WalkMore
namespace Go.Proofs.Ytlaplakaifmpeaa.Pt
open Go.RowKit K Go.Shelf
set_option linter.unusedVariables false
set_option linter.unusedSimpArgs false
attribute [local go_sem] Oper.semAt_some

/-- Is it gone into? -/
def goes (t : Tm) : Bool := decide (t.k = 7 ∨ t.k = 9)
mutual
def rleafs : Tm → List Tm
  | .mk k n s l => if goes (.mk k n s l) = true then rleafsL l else [.mk k n s l]
def rleafsL : List Tm → List Tm
  | [] => []
  | t :: r => rleafsL r ++ rleafs t
end
theorem rleafs_eq (t : Tm) : rleafs t = if goes t = true then rleafsL t.l else [t] := by cases t; rw [rleafs]; rfl
theorem rleafsL_nil : rleafsL [] = [] := by rw [rleafsL]
theorem rleafsL_cons (t : Tm) (r : List Tm) : rleafsL (t :: r) = rleafsL r ++ rleafs t := by rw [rleafsL]
theorem rleafsL_append (L M : List Tm) : rleafsL (L ++ M) = rleafsL M ++ rleafsL L := by
  induction L with
  | nil => rw [List.nil_append, rleafsL_nil, List.append_nil]
  | cons a r ih => rw [List.cons_append, rleafsL_cons, rleafsL_cons, ih, List.append_assoc]
/-- What a round keeps: a stack, what has come. -/
def LfI (W : World) (n0 B : Nat) (t : Tm) (J : List (Tm × TV) → World → Prop) (gk : Nat) (v : Value) (wr : World) : Prop :=
  ∃ L vs pre, TsVs wr (· < n0) L vs ∧ wr.ownsRow B 24 4 v L.length (flat vs) ∧ nodesL L = gk ∧ pre.length + gk ≤ nodes t ∧ pre.map (·.1) ++ rleafsL L = rleafs t ∧ J pre wr ∧ Below n0 W wr ∧ B ≤ wr.heap.size
set_option maxRecDepth 100000 in
set_option maxHeartbeats 8000000 in
theorem leafs1_in (t : Tm) (tvl : Value) (Bt n0 B : Nat) (W : World) (hn : nodes t ≤ 1048576) (hB : n0 ≤ B) (hBW : B ≤ W.heap.size) (ht : TAt W (· < n0) t tvl) (hbt : ∀ k n s A m c, tvl = .agg #[.int .i64 k, .int .i64 n, .string s, .slice A m c] → Blk W Bt 24 #[.int .i64 k, .int .i64 n, .string s, .slice A m c]) :
    SeqB Try.prog 69 #[.pointer (some ⟨Bt, 0, none⟩)] ptEnc (fun x => TAt W (· < n0) x.1 x.2.val) (fun xs => xs.map (·.1) = rleafs t) (fun xs => ∃ r, xs.map (·.1) ++ r = rleafs t) (nodes t) n0 B W := by
  intro n l J Jx hJ hJx hY h0
  obtain ⟨k0, n9, s0, l0, A0, c0, rfl, rfl, ok, hl0⟩ : ∃ k n s l A c, t = .mk k n s l ∧ tvl = .agg #[.int .i64 k, .int .i64 n, .string s, .slice A l.length c] ∧ TOk (.mk k n s l) A c ∧ TsAt W (· < n0) A l := by
    obtain ⟨A, c, rfl, ok, hl⟩ := TAt.inv ht
    obtain ⟨k, n, s, l⟩ := t
    exact ⟨k, n, s, l, A, c, rfl, rfl, ok, hl⟩
  obtain ⟨p0, p1, p2, p3, q0, q1, q2, q3⟩ := (hbt _ _ _ _ _ _ rfl).four
  have hI0 : LfI W n0 B (.mk k0 n9 s0 l0) J (nodesL [.mk k0 n9 s0 l0]) (.slice (some ⟨W.heap.size, 0, none⟩) 1 1) (W.alloc (.cells #[.int .i64 k0, .int .i64 n9, .string s0, .slice A0 l0.length c0] 24)) := by
    have hb1 : Below W.heap.size W (W.alloc (.cells #[.int .i64 k0, .int .i64 n9, .string s0, .slice A0 l0.length c0] 24)) := ballocs (Below.refl _ _) _
    refine ⟨[.mk k0 n9 s0 l0], [.agg #[.int .i64 k0, .int .i64 n9, .string s0, .slice A0 l0.length c0]], [], .one (TAt.keep ht fun p hp => hb1.cell (Nat.lt_of_lt_of_le (show p.block < n0 from hp) (by omega))), ?_, rfl, ?_, ?_, hJ _ _ _ h0 (hb1.mono hBW), hb1.mono (by omega), by simp; omega⟩
    · exact World.ownsRow_lit (base := B) (e := 24) (size := 4) W #[.int .i64 k0, .int .i64 n9, .string s0, .slice A0 l0.length c0] 1 hBW (by simp [maxLen]) rfl
    · rw [nodesL_cons, nodesL_nil]; simp
    · rw [rleafsL_cons, rleafsL_nil]; simp
  have HI0 := Lib.hid hI0
  clear hI0
  refine callsIn_of_wp Try.func69 rfl trivial ?_ rfl
  simp only [Try.ntmps69, List.size_toArray, List.length_cons, List.length_nil, Nat.reduceAdd, Nat.reduceSub, Array.replicate_succ, Array.replicate_zero, List.push_toArray, List.append_toArray, List.nil_append, List.cons_append]
  refine wpIn_wide.2 ?_
  go_step3
  go_wp2
  go_step3
  go_wp2
  refine (wpIn_wide (n := n + 1)).1 ?_
  gi_loopg [3] (nodesL [.mk k0 n9 s0 l0]) (fun gk v wr => LfI W n0 B (.mk k0 n9 s0 l0) J gk v wr)
  case atStart => exact HI0.out
  case round =>
    obtain ⟨L, vs, pre, hvs, hrow, hgk, hln, hpre, hJp, hbel, hBz⟩ := hrel
    rcases List.eq_nil_or_concat L with rfl | ⟨L', x, rfl⟩
    · obtain ⟨A3, c3, rfl, _, _⟩ := ownsRow_form hrow
      have HP := Lib.hid hpre
      have HJ := Lib.hid hJp
      clear hvs hrow hpre hJp hY
      gi_wp2
      rw [Exit.noGoto_normal]
      go_end0
      exact ⟨⟨_, rfl⟩, .inl ⟨pre, by have := HP.out; rw [rleafsL_nil, List.append_nil] at this; exact this, HJ.out⟩⟩
    · rw [List.concat_eq_append] at hrow hvs hpre hgk
      have hlen : (L' ++ [x]).length = L'.length + 1 := by simp
      rw [hlen] at hrow
      obtain ⟨g, cap, rfl, hBg, hgl⟩ := hrow.form (by omega)
      obtain ⟨_, _, he, hc3, hm3⟩ := ownsRow_form hrow
      injection he with he0 _ he
      subst he he0
      have hcell := hrow.cells (g := g) rfl
      obtain ⟨vx, hvx, htx, hcx⟩ := hvs.at_ (i := L'.length) (u := x) (by simp)
      obtain ⟨A5, c5, rfl, ok5, hl5⟩ := htx.inv
      have r0 := hcell (L'.length * 4 + 0) _ ((hcx 0 (by omega)).trans rfl)
      have r1 := hcell (L'.length * 4 + 1) _ ((hcx 1 (by omega)).trans rfl)
      have r2 := hcell (L'.length * 4 + 2) _ ((hcx 2 (by omega)).trans rfl)
      have r3 := hcell (L'.length * 4 + 3) _ ((hcx 3 (by omega)).trans rfl)
      simp only [add_plain', Nat.zero_add, Nat.add_zero] at r0 r1 r2 r3
      have hr4 := ownsRow_less hrow
      rw [← hvs.flat_take L'.length] at hr4
      have hv4 := hvs.take L'.length
      rw [List.take_left] at hv4
      rw [nodesL_append, nodesL_cons, nodesL_nil] at hgk
      rw [rleafsL_append, rleafsL_cons, rleafsL_nil, List.nil_append, rleafs_eq] at hpre
      have hnx := nodes_eq x
      have hll := nodesL_len L'
      have hlx := nodesL_len x.l
      have hll2 : L'.length ≤ 1048576 := by omega
      have hcap : L'.length + 1 ≤ cap := hc3
      obtain ⟨W2, hW2⟩ : ∃ W2, wr.alloc (.cells #[.int .i64 x.k, .int .i64 x.n, .string x.s, .slice A5 x.l.length c5] 24) = W2 := ⟨_, rfl⟩
      have hb2 : Below wr.heap.size wr W2 := by rw [← hW2]; exact ballocs (Below.refl _ _) _
      have hz2 := hb2.size
      have hJ2 := hJ _ _ _ hJp (hb2.mono hBz)
      have hwn : n0 ≤ wr.heap.size := by omega
      have hr5 : W2.ownsRow B 24 4 (.slice (some ⟨g, 0, none⟩) L'.length cap) L'.length (flat (vs.take L'.length)) := ownsRow_below hr4 hb2 (fun r hr => (hr4.lt r hr).2)
      have hv5 : TsVs W2 (· < n0) L' (vs.take L'.length) := hv4.keep fun p hp => hb2.cell (Nat.lt_of_lt_of_le (show p.block < n0 from hp) hwn)
      have hbel2 : Below n0 W W2 := hbel.trans (hb2.mono hwn)
      have HPRE := Lib.hid hpre
      have HW2 := Lib.hid hW2
      have HGK := Lib.hid hgk
      have HLN := Lib.hid hln
      cases hgo : goes x with
      | true =>
        have hl6 : TsAt W2 (· < n0) A5 x.l := hl5.keep fun p hp => hb2.cell (Nat.lt_of_lt_of_le (show p.block < n0 from hp) hwn)
        obtain ⟨us, hus, hrd⟩ := hl6.reads (B := n0) (fun b h => h)
        obtain ⟨i0, hi, hz0, hz1, hz2'⟩ := info_parts infoT
        obtain ⟨v6, w6, hrun, hR6, hg6, hat6⟩ := run_append_any (P := Try.prog) W2 B 22 22 24 i0 _ 4 56 Try.underlying22 hi hz0 hz1 hz2' rfl (by decide) (.slice (some ⟨g, 0, none⟩) L'.length cap) L'.length _ hr5 n0 A5 x.l.length c5 _ hrd hus.one_cell (by unfold maxLen; omega) (by omega) (by omega)
        have hk6 : Keep (fun k => k = g) W2 w6 := (Keep.refl _ _).grown hg6 (fun k e => by injection e with e; exact .inl e.symm)
        have HI6 := Lib.hid (show LfI W n0 B (.mk k0 n9 s0 l0) J (nodesL (L' ++ x.l)) v6 w6 from by
          refine ⟨L' ++ x.l, vs.take L'.length ++ us, pre, (hv5.append hus).keep fun p hp => hk6.cell (Nat.lt_of_lt_of_le (show p.block < n0 from hp) (by omega)) (fun e => by have : p.block < n0 := hp; omega), by rw [List.length_append, flat_append]; exact hR6, rfl, ?_, ?_, hJ _ _ _ hJ2 (hk6.to_below (by omega) (fun i _ e => by subst e; exact hBg)), hbel2.trans (hk6.to_below (by omega) (fun i _ e => by subst e; omega)), by have := hk6.size; omega⟩
          · rw [nodesL_append]; have := HGK.out; have := HLN.out; omega
          · rw [rleafsL_append]; have := HPRE.out; rw [hgo, if_pos rfl] at this; exact this)
        have HRUN := Lib.hid hrun
        rw [← hW2] at hrun
        have HRUN := Lib.hid hrun
        have hlt : nodesL (L' ++ x.l) < gk := by rw [nodesL_append]; omega
        have hkk : x.k = 7 ∨ x.k = 9 := by unfold goes at hgo; simpa using hgo
        clear hl6 hus hrd hi hz0 hz1 hz2' hrun hR6 hg6 hat6 hk6 hr5 hv5 hr4 hv4 hpre hJ2 hJp hbel hbel2 hgo hvs hrow hvx htx hcx hl5 hcell hY hW2 hb2 hgk hln hnx
        refine wpIn_wide.2 ?_
        rcases hkk with hk7 | hk9
        · rw [hk7] at r0 HRUN
          have HLT := Lib.hid hlt
          clear hlt
          go_wp2_with (first
            | (at_builtin; refine wpList_append_run (o := ⟨some 32, _, _, _, _, _⟩) (.tmp 29) (.tmp 31) 22 _ _ _ HRUN.out rfl rfl (by simp [Act.eval, Act.put]) (by simp [Act.eval, Act.put]) ?_)
            | fail)
          go_roundg (nodesL (L' ++ x.l))
          case measure => exact HLT.out
          case rel => exact HI6.out
        · have h7 : (x.k == 7) = false := by rw [hk9]; rfl
          rw [hk9] at r0 HRUN
          have HLT := Lib.hid hlt
          clear hlt
          go_wp2_with (first
            | (at_builtin; refine wpList_append_run (o := ⟨some 32, _, _, _, _, _⟩) (.tmp 29) (.tmp 31) 22 _ _ _ HRUN.out rfl rfl (by simp [Act.eval, Act.put]) (by simp [Act.eval, Act.put]) ?_)
            | fail)
          go_roundg (nodesL (L' ++ x.l))
          case measure => exact HLT.out
          case rel => exact HI6.out
      | false =>
        obtain ⟨fn, tmps, assign, body, hy, hR⟩ := hY pre (x, ⟨x.k, x.n, x.s, A5, x.l.length, c5⟩) W2 hJ2 (by omega) (by have := HLN.out; omega) (htx.keep (fun p hp => (hbel.cell hp).symm))
        have h7 : (x.k == 7) = false := by
          unfold goes at hgo
          rw [beq_eq_false_iff_ne]
          intro e; rw [e] at hgo; simp at hgo
        have h9 : (x.k == 9) = false := by
          unfold goes at hgo
          rw [beq_eq_false_iff_ne]
          intro e; rw [e] at hgo; simp at hgo
        have HGO := Lib.hid hgo
        have HR5 := Lib.hid hr5; have HV5 := Lib.hid hv5; have HBE := Lib.hid hbel2
        simp only [ptEnc, TV.val] at hy
        rw [← hW2] at hy
        clear hgo hpre hJp hJ2 hvs hrow hvx htx hcx hl5 hcell hY hW2 hr5 hv5 hr4 hv4 hbel hbel2 hgk hln hb2
        gi_wp2
        rw [HW2.out]
        have hR' := hR
        refine hR'.mono ?_
        rintro e W3 (⟨rfl, hJ3, hk3⟩ | ⟨rfl, hJx3, hk3⟩)
        · have hz3 := hk3.size
          have HI3 := Lib.hid (show LfI W n0 B (.mk k0 n9 s0 l0) J (nodesL L') (.slice (some ⟨g, 0, none⟩) L'.length cap) W3 from by
            refine ⟨L', vs.take L'.length, pre ++ [(x, ⟨x.k, x.n, x.s, A5, x.l.length, c5⟩)], HV5.out.keep fun p hp => hk3.cell (Nat.lt_of_lt_of_le (show p.block < n0 from hp) (by omega)) (Mild.old hp), ownsRow_keep HR5.out hk3 (fun r hr => Mild.no (HR5.out.lt r hr).1), rfl, ?_, ?_, hJ3, HBE.out.trans (hk3.to_below (by omega) (fun i _ h => h.1)), by omega⟩
            · have := HLN.out; have := HGK.out; simp; omega
            · have h := HPRE.out
              rw [HGO.out, if_neg (by simp)] at h
              rw [List.map_append, List.append_assoc]
              exact h)
          have HLT := Lib.hid (show nodesL L' < gk from by have := HGK.out; omega)
          clear hJ3 hk3 hR hR' hz3
          gi_wp2
          gi_roundg (nodesL L')
          case measure => exact HLT.out
          case rel => exact HI3.out
        · have HJX := Lib.hid hJx3
          clear hJx3 hk3 hR hR'
          gi_wp2
          rw [Exit.noGoto_normal]
          go_end0
          refine ⟨⟨_, rfl⟩, .inr ⟨_, ⟨rleafsL L', ?_⟩, HJX.out⟩⟩
          have h := HPRE.out
          rw [HGO.out, if_neg (by simp)] at h
          rw [List.map_append, List.append_assoc]
          exact h
end Go.Proofs.Ytlaplakaifmpeaa.Pt
