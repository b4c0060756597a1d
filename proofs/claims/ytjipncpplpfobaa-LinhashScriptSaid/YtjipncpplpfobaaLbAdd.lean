/- linhash: Add, by its contract. -/
import Derived.Test.YtjipncpplpfobaaLb
import Derived.Test.YtjipncpplpfobaaSteps
import Derived.RangeFuncBox
import Derived.Deep.RegionLaw
import Derived.BigRegion
namespace Go.Proofs.Ytjipncpplpfobaa.Lb
open Go.RowKit K Hs
set_option linter.unusedVariables false
set_option linter.unusedSimpArgs false

theorem cell_two_new (w : World) (t : TypeId) (x y : Value) : ∀ j u, [x, y][j]? = some u → (w.alloc (.cells #[x, y] t)).cell? ((⟨w.heap.size, 0, none⟩ : Addr).add j) = some u := by
  intro j u hj
  have hb := Blk.new w t #[x, y]
  rcases j with _ | _ | j
  · simp at hj; subst hj; have := hb.cell 0; simp [Addr.add, this]
  · simp at hj; subst hj; have := hb.cell 1; simp [Addr.add, this]
  · simp at hj
/-- An item more in a row: the append's run, told ahead. -/
theorem item_run (w w0 : World) (A : Option Addr) (c : Nat) (l : List It) (x : It) (hr : w.ownsRow 0 54 2 (.slice A l.length c) l.length (itL l)) (hl : l.length ≤ 1099511627776) (hw : w0.heap = w.heap ∧ w0.os = w.os ∧ w0.tape = w.tape ∧ w0.output = w.output) :
    ∃ g1 c1 w1, (Builtin.append_ #[43, 43] 43 #[.slice A l.length c, .slice (some ⟨w0.heap.size, 0, none⟩) 1 1]).run Try.prog (w0.alloc (.cells #[.int .u32 x.1, .int .i64 x.2] 54)) = .ok (.slice (some ⟨g1, 0, none⟩) (l.length + 1) c1) w1 ∧
      w1.ownsRow 0 54 2 (.slice (some ⟨g1, 0, none⟩) (l ++ [x]).length c1) (l ++ [x]).length (itL (l ++ [x])) ∧ Keep (fun k => (Value.slice A l.length c).ownBlock = some k) w w1 ∧
      (∀ r, (Value.slice (some ⟨g1, 0, none⟩) (l ++ [x]).length c1).ownBlock = some r → (Value.slice A l.length c).ownBlock = some r ∨ w.heap.size ≤ r) ∧ w.heap.size < w1.heap.size ∧ w1.cell? ⟨w.heap.size, 0, none⟩ = some (.int .u32 x.1) := by
  obtain ⟨i0, hi, hz0, hz1, hz2⟩ := info_parts infoI
  obtain ⟨hwh, hwo, hwt, hwu⟩ := hw
  have hr0 : w0.ownsRow 0 54 2 (.slice A l.length c) l.length (itL l) := by
    refine ⟨hr.1, ?_⟩
    rcases hr.2 with h2 | ⟨g, cap, cur, e, hg, hh, r⟩
    · exact .inl h2
    · exact .inr ⟨g, cap, cur, e, hg, by rw [hwh]; exact hh, r⟩
  obtain ⟨v1, w1, hrun, hown, hg, _, hat⟩ := run_append_own_at (P := Try.prog) (w0.alloc (.cells #[.int .u32 x.1, .int .i64 x.2] 54)) 0 43 43 54 i0 _ 2 16 Try.underlying43 hi hz0 hz1 hz2 rfl (by decide)
    (.slice A l.length c) l.length (itL l) (hr0.alloc _) ⟨w0.heap.size, 0, none⟩ 1 1 [.int .u32 x.1, .int .i64 x.2] rfl (cell_two_new _ _ _ _) (by simp [Value.oneCell']) (by unfold maxLen; omega) (by omega) (Nat.zero_le _)
  obtain ⟨g1, c1, rfl⟩ := ownsRow_succ hown
  have e1 : (l ++ [x]).length = l.length + 1 := by simp
  have hk : Keep (fun k => (Value.slice A l.length c).ownBlock = some k) w w1 := by
    have h0 : Keep (fun k => (Value.slice A l.length c).ownBlock = some k) w w0 := ⟨hwo, hwt, hwu, by rw [hwh]; exact Nat.le_refl _, fun k _ _ => by rw [hwh]⟩
    exact (h0.alloc _).grown hg (fun k hk => .inl hk)
  have hsz := hg.size
  rw [World.size_alloc, hwh] at hsz
  refine ⟨g1, c1, w1, hrun, ?_, hk, fun r hr2 => ?_, by omega, ?_⟩
  · rw [e1, itL_append]
    exact hown
  · rw [e1] at hr2
    rcases hat with h1 | h1
    · left; rw [← h1]; exact hr2
    · right
      rw [h1] at hr2
      injection hr2 with hr2
      rw [World.size_alloc, hwh] at hr2
      omega
  · have hb := (Blk.new w0 54 #[.int .u32 x.1, .int .i64 x.2]).grown hg (fun e => by
      have := (hr.lt _ e.symm).2
      rw [hwh] at this
      omega)
    rw [← hwh, hb.cell]
    rfl
/-- An item more. -/
def addL (L : List (List It)) (n : Nat) (x : It) : List (List It) := L.set n ((L.getD n []) ++ [x])
theorem addL_len (L : List (List It)) (n : Nat) (x : It) : (addL L n x).length = L.length := by simp [addL]
set_option maxRecDepth 100000 in
set_option maxHeartbeats 8000000 in
theorem add_any {w : World} {G : Nat → Prop} {g least gr cap : Nat} {cnt : Int} {L : List (List It)} (hB : LB w G g least cnt gr cap L) (h id : Int) (h0 : 0 ≤ h) (h1 : h ≤ 4294967295) (hid : (Lit.int .i64 id).wf = true)
    (m1 : 1 ≤ L.length) (m2 : L.length ≤ 1048576) (c0 : 0 ≤ cnt) (c1 : cnt < 16777216) (hl : ∀ l ∈ L, l.length ≤ 1099511627776) :
    Calls Try.prog 12 #[.pointer (some ⟨g, 0, none⟩), .int .u32 h, .int .i64 id] w fun e w' => e = .returned (.tuple #[.int .i64 (bk h L.length : Int), .int .i64 0]) ∧ LB w' (upG G w w') g least (cnt + 1) gr cap (addL L (bk h L.length) (h, id)) ∧ Keep G w w' := by
  have hlt := bk_lt (h := h) m1 m2
  have hsp := hB.cells
  obtain ⟨q0, q1, q2, f0, f1, f2, g1, g2, n1, n2, hne⟩ := hsp
  obtain ⟨m, hm⟩ : ∃ m, L.length = m := ⟨_, rfl⟩
  obtain ⟨n, hn⟩ : ∃ n, bk h L.length = n := ⟨_, rfl⟩
  rw [hn] at hlt ⊢
  obtain ⟨l, hll⟩ : ∃ l, L[n]? = some l := ⟨_, List.getElem?_eq_getElem hlt⟩
  obtain ⟨A, c, hcell, hfz, hown, hblk, hA⟩ := hB.2.2.2.spot hll
  have hlen : l.length ≤ 1099511627776 := hl l (List.mem_of_getElem? hll)
  obtain ⟨ga, ca, w1, hrun, hown1, hk1, hat1, hz1, _⟩ := item_run w w.drew A c l (h, id) hown hlen ⟨rfl, rfl, rfl, rfl⟩
  have hng : (Value.slice A l.length c).ownBlock ≠ some g := hB.row_ne hown
  have hngr : (Value.slice A l.length c).ownBlock ≠ some gr := fun e => (hblk _ e).2.2 rfl
  have hL := hB.set hll hcell hk1 hown1 hat1
  have e1 : (l ++ [(h, id)]).length = l.length + 1 := by simp
  rw [e1] at hL
  obtain ⟨W2, hW2⟩ : ∃ W2, w1.setCell ⟨gr, n, none⟩ (.slice (some ⟨ga, 0, none⟩) (l.length + 1) ca) = W2 := ⟨_, rfl⟩
  rw [hW2] at hL
  have hEL : L.set n (l ++ [(h, id)]) = addL L n (h, id) := by unfold addL; rw [List.getD_eq_getElem?_getD, hll]; rfl
  rw [hEL] at hL
  obtain ⟨p0, p1, p2, t0, t1, t2, _⟩ := hL.1.cells
  have hcnt := hL.1.count (cnt + 1)
  have k2 : w1.cell? ⟨g, 2, none⟩ = some (.slice (some ⟨gr, 0, none⟩) m cap) := by rw [← hm]; exact (hk1.cell (p := ⟨g, 2, none⟩) g1 hng).trans q2
  have k3 : w1.cell? ⟨gr, n, none⟩ = some (.slice A l.length c) := (hk1.cell (p := ⟨gr, n, none⟩) g2 hngr).trans hcell
  have k4 : w1.frozen? ⟨gr, n, none⟩ = false := (hk1.frozen (p := ⟨gr, n, none⟩) g2 hngr).trans hfz
  have HN := Lib.hid (none_no g gr m cap w (by rw [← hm]; exact q2))
  have HOF := Lib.hid (of_any g gr m cap h w (by rw [← hm]; exact q2) h0 h1 (by omega) (by omega))
  rw [hm] at hn
  rw [hn] at HOF
  have HRUN := Lib.hid hrun
  have HW2 := Lib.hid hW2
  have HF := Lib.hid (show LB (W2.setCell ⟨g, 1, none⟩ (.int .i64 (cnt + 1))) (upG G w (W2.setCell ⟨g, 1, none⟩ (.int .i64 (cnt + 1)))) g least (cnt + 1) gr cap (addL L n (h, id)) ∧ Keep G w (W2.setCell ⟨g, 1, none⟩ (.int .i64 (cnt + 1))) from by
    have e5 : (W2.setCell ⟨g, 1, none⟩ (.int .i64 (cnt + 1))).heap.size = W2.heap.size := by simp [World.setCell]
    refine ⟨?_, hL.2.setCell (.inl hB.2.1) _⟩
    have e6 : upG G w (W2.setCell ⟨g, 1, none⟩ (.int .i64 (cnt + 1))) = upG G w W2 := by unfold upG; rw [e5]
    rw [e6]; exact hcnt.1)
  have q2' : w.cell? ⟨g, 2, none⟩ = some (.slice (some ⟨gr, 0, none⟩) m cap) := by rw [← hm]; exact q2
  have hnm : (n : Int) < (m : Int) := by omega
  have hw : IntKind.i64.wrap (cnt + 1) = cnt + 1 := IntWalk.i64_in _ (by omega)
  clear hB hcnt hL hk1 hown1 hat1 hrun hW2 hown hblk hll hEL hlen hA n1 n2 hl hid h0 h1 m1 m2 hm hn q0 q2 f0 f1 f2 p0 p2 t0 t2 hng hngr hlt e1
  go_enter Try.func12, Try.ntmps12
  go_wp2_with (first
    | (go_at_call 37; refine HN.out.mono ?_; rintro e w' ⟨rfl, rfl⟩)
    | (go_at_call 38; refine HOF.out.mono ?_; rintro e w' ⟨rfl, rfl⟩)
    | fail)
  go_region_law (refine step_append_run (.tmp 32) (.tmp 36) 43 _ _ _ HRUN.out rfl rfl (by simp [Act.eval, Act.put]) (by simp [Act.eval, Act.put]) ?_)
  all_goals
    rw [HW2.out]
    go_wp2_with fail
    go_ret2
    exact ⟨rfl, HF.out⟩
end Go.Proofs.Ytjipncpplpfobaa.Lb
