/- hash.Bytes, by its contract. -/
import Derived.Test.YtbpdaoedmjpdpaaHashBytesOf
import Derived.Test.YtbpdaoedmjpdpaaTmKeep
import Derived.Test.YtbpdaoedmjpdpaaHashOps
import Derived.Test.YtbpdaoedmjpdpaaRangeB
import Derived.Maps.AppendAt
import Derived.RangeFuncBox
namespace Go.Proofs.Ytbpdaoedmjpdpaa.Hs
open Go.RowKit Go.Shelf K
set_option linter.unusedVariables false
set_option linter.unusedSimpArgs false
attribute [local go_sem] Oper.semAt_some

set_option maxRecDepth 100000 in
set_option maxHeartbeats 4000000 in
/-- hash.all's value: a term's bytes, or a part of them. -/
theorem all_stops (b Bs m : Nat) (t : Tm) (k n : Int) (s : ByteArray) (A : Option Addr) (q c : Nat) (w : World) (hv : Vb b w) (hB : Blk w Bs 35 #[.int .i64 k, .int .i64 n, .string s, .slice A q c]) (hnb : ∀ j, j < b → ¬ Rb b w j)
    (ht : TAt w (· < b) t (.agg #[.int .i64 k, .int .i64 n, .string s, .slice A q c])) :
    SeqStopsK Fence.wide (m + 1) Try.prog 43 #[.pointer (some ⟨Bs, 0, none⟩)] enc8 (Kb b) (fun xs => xs = bytesT t) (fun xs => xs <+: bytesT t) (bytesT t).length w := by
  intro l J Jx W hW hJ hJx hY h0
  have hvW := hv.below hW
  have hb := hv.1
  have htW : TAt W (fun j => ¬ Rb b W j) t (.agg #[.int .i64 k, .int .i64 n, .string s, .slice A q c]) := (TAt.under ht hW (fun j hj => Nat.lt_trans hj hb)).mono fun j hj hr => hnb j hj ((Rb.same (hW.cell (p := ⟨b, 0, none⟩) hb)).1 hr)
  obtain ⟨p0, p1, p2, p3, _, _, _, _⟩ := (hB.below hW hB.lt).four
  have hc := bytes_in b l (bytesT t).length W.heap.size J Jx hJ (fun m' pre x W1 hJ1 hl => YieldAt.anyDepth rfl m' (hY pre x W1 hJ1 hl)) t m _ [] W (Nat.le_refl _) hvW htW h0 (by simp)
  refine callsIn_of_wp Try.func43 rfl trivial ?_ rfl
  simp only [Try.ntmps43, List.size_toArray, List.length_cons, List.length_nil, Nat.reduceAdd, Nat.reduceSub, Array.replicate_succ, Array.replicate_zero, List.push_toArray, List.append_toArray, List.nil_append, List.cons_append]
  gi_wp2
  refine ⟨trivial, hc.mono ?_⟩
  rintro e W3 (⟨rfl, hJ3, hk3, hv3⟩ | ⟨rfl, q', hq, hJx3⟩)
  · gi_wp2
    go_end0
    exact ⟨⟨_, rfl⟩, .inl ⟨_, rfl, by simpa using hJ3⟩⟩
  · gi_wp2
    go_end0
    exact ⟨⟨_, rfl⟩, .inr ⟨_, hq, by simpa using hJx3⟩⟩
theorem all_in (n : Nat) (k n0 : Int) (s : ByteArray) (A : Option Addr) (q c : Nat) (w : World) :
    CallsIn Fence.wide n Try.prog 33 #[.agg #[.int .i64 k, .int .i64 n0, .string s, .slice A q c]] w fun e w' => e = .returned (.func (.func 43) #[] #[.pointer (some ⟨w.heap.size, 0, none⟩)]) ∧ w' = w.alloc (.cells #[.int .i64 k, .int .i64 n0, .string s, .slice A q c] 35) := by
  refine callsIn_of_wp Try.func33 rfl trivial ?_ rfl
  simp only [Try.ntmps33, List.size_toArray, List.length_cons, List.length_nil, Nat.reduceAdd, Nat.reduceSub, Array.replicate_succ, Array.replicate_zero, List.push_toArray, List.append_toArray, List.nil_append, List.cons_append]
  gi_wp2
  go_ret
  exact ⟨rfl, rfl⟩

theorem wpListIn_append_run {F : Fence} {n : Nat} {P : Program} {w w' : World} {ops : Array Oper} {rest : List Oper} {o : Oper} {a : Act} {Q : Exit → Act → World → Prop}
    (hg : o.guard = none) (s x : Operand) (t : TypeId) (hop : o.op = Op.call { callee := Callee.builtin Builtin.append, args := #[s, x], argTypes := #[t, t] }) (v u v' : Value) (hs : a.eval s = v) (hx : a.eval x = u)
    (hrun : (Builtin.append_ #[t, t] o.type #[v, u]).run P w = .ok v' w') (hK : wpListIn F n P ops Q rest (a.put o.dst v') w') : wpListIn F n P ops Q (o :: rest) a w := by
  refine wpListIn_plain hg fun K hK' => ?_
  unfold Oper.wpIn
  refine ⟨?_, ?_⟩
  · simp [Oper.about, hop, resolve, Target.leads, Sem.run_pure]
  · rw [Oper.semAt_plain F _ _ (by rw [hop]; intro c hc'; cases hc')]
    unfold execOp
    simp only [hop, resolve, invoke, builtin, Sem.run_bind, Sem.run_pure, Result.andThen_ok, List.map_toArray, List.map_cons, List.map_nil, hs, hx, hrun]
    exact hK' _ _ hK
theorem infoU8 : (Try.prog.info? 5).map (fun i => (i.zero, i.size, i.bytes)) = some (some (.int .u8 0), 1, 1) := by kernel_rfl
/-- What has been collected. -/
def OutI (b : Nat) (w : World) (pre : List B8) (W : World) : Prop :=
  (∃ v, Boxed W b 23 v ∧ W.ownsRow w.heap.size 5 1 v pre.length (encs8 pre) ∧ True) ∧ Below w.heap.size w W ∧ b < W.heap.size
theorem OutI_own {b : Nat} {w : World} {B : Nat} (hB : w.heap.size ≤ B) : OwnFrom B (OutI b w) := by
  intro pre X Y row ⟨h1, h2, h3⟩ hg hr
  exact ⟨holdsRow_own (β := List B8) w.heap.size b 23 5 1 (fun s => s.length) (fun s => encs8 s) (fun _ _ => True) pre X Y row h1 hg (fun r e => (hr r e).2), h2.grown hg h2.size (fun r e => by have := (hr r e).1; omega), Nat.lt_of_lt_of_le h3 hg.size⟩
theorem out_step {b : Nat} {w Wx w1 : World} {pre : List B8} {x : B8} {v v1 : Value} {B : Nat} (hb : w.heap.size ≤ b) (hv : Boxed Wx b 23 v) (hr : Wx.ownsRow w.heap.size 5 1 v pre.length (encs8 pre)) (hbel : Below w.heap.size w Wx)
    (hown : w1.ownsRow w.heap.size 5 1 v1 (pre.length + 1) (encs8 pre ++ [.int .u8 x.1])) (hg : (Wx.alloc (.cells #[.int .u8 x.1] 5)).grownBy w1 v.ownBlock) (hat : v1.ownBlock = v.ownBlock ∨ v1.ownBlock = some (Wx.alloc (.cells #[.int .u8 x.1] 5)).heap.size) :
    KeepsFrom B Wx (w1.setCell ⟨b, 0, none⟩ v1) ∧ Kb b Wx (w1.setCell ⟨b, 0, none⟩ v1) ∧ OutI b w (pre ++ [x]) (w1.setCell ⟨b, 0, none⟩ v1) := by
  obtain ⟨hv1, hv2, hr2, hk2, hb2⟩ := hv.appended (by decide) hr hbel.size hb hown hg
  have hsz : Wx.heap.size + 1 ≤ w1.heap.size := by have := hg.size; rw [World.size_alloc] at this; exact this
  have hz : (w1.setCell ⟨b, 0, none⟩ v1).heap.size = w1.heap.size := by simp [World.setCell]
  have hcell : (w1.setCell ⟨b, 0, none⟩ v1).cell? ⟨b, 0, none⟩ = some v1 := hv2.cell
  have hlt := hv.lt
  have hvlt : ∀ r, v.ownBlock = some r → r < Wx.heap.size := fun r e => (hr.lt r e).2
  have hRb : ∀ k, Rb b (w1.setCell ⟨b, 0, none⟩ v1) k → k = b ∨ v1.ownBlock = some k := fun k hk => by
    rcases hk with h | ⟨o, n, c, h⟩
    · exact .inl h
    · rw [hcell] at h
      injection h with h
      rw [h]
      exact .inr rfl
  have hRx : ∀ k, v.ownBlock = some k → Rb b Wx k := fun k e => .inr (by
    obtain ⟨A, c, rfl, _⟩ := ownsRow_form hr
    rcases A with _ | ⟨g, o, sp⟩
    · cases e
    · have e' : g = k := by injection e
      subst e'
      rcases hr.2 with ⟨h, _⟩ | ⟨g', cap, cur, h, _⟩
      · cases h
      · injection h with h _ _
        injection h with h
        injection h with h1 h2 h3
        subst h2 h3
        exact ⟨_, _, _, hv.cell⟩)
  refine ⟨hk2.from _, ⟨by omega, fun hV => ⟨by omega, fun k hk => ?_⟩, fun k hk hn => ⟨fun hk' => ?_, fun o ho hc => ?_⟩⟩, ⟨v1, hv2, ?_, trivial⟩, hbel.trans hb2, by omega⟩
  · rcases hRb k hk with h | h
    · omega
    · have := (hown.lt k h).2; omega
  · rcases hRb k hk' with h | h
    · exact hn (.inl h)
    · rcases hat with h' | h'
      · exact hn (hRx k (by rw [← h']; exact h))
      · rw [h', World.size_alloc] at h; injection h with h; omega
  · have h1 : k ≠ b := fun e => hn (.inl e)
    have h2 : v.ownBlock ≠ some k := fun e => hn (hRx k e)
    rw [Below.heap_setCell w1 _ _ k h1]
    exact ((hg.block k (by rw [World.size_alloc]; omega) (fun e => h2 e.symm)).trans (Below.heap_alloc Wx _ k hk)).trans ho
  · have : encs8 (pre ++ [x]) = encs8 pre ++ [.int .u8 x.1] := by simp [encs8]
    rw [this, List.length_append]
    exact hr2

set_option maxRecDepth 100000 in
set_option maxHeartbeats 8000000 in
theorem bytes_any (t : Tm) (v : Value) (w : World) (h : TA w t v) (hN : (bytesT t).length ≤ 1099511627776) : Calls Try.prog 16 #[v] w fun e w' =>
    ∃ v', e = .returned v' ∧ w'.ownsRow w.heap.size 5 1 v' (bytesT t).length (encs8 (bytesT t)) ∧ Below w.heap.size w w' := by
  have HTA := Lib.hid h
  obtain ⟨k0, n0, s0, l0, A0, c0, rfl, rfl, ok, hl⟩ := h.open_
  clear h ok hl
  obtain ⟨i0, hi, hz0, hz1, hz2⟩ := info_parts infoU8
  refine (callsIn_wide (n := 9)).1 ?_
  refine callsIn_of_wp_marks Try.func16 rfl trivial ?_ rfl
  simp only [Try.ntmps16, List.size_toArray, List.length_cons, List.length_nil, Nat.reduceAdd, Nat.reduceSub, Array.replicate_succ, Array.replicate_zero, List.push_toArray, List.append_toArray, List.nil_append, List.cons_append]
  gi_wp2_with (refine ⟨trivial, ?_⟩; gi_at_call 33; refine (all_in _ _ _ _ _ _ _ _).mono ?_; rintro e w' ⟨rfl, rfl⟩)
  obtain ⟨W0, hW0⟩ : ∃ W0, (((w.alloc (.cells #[.int .i64 k0, .int .i64 n0, .string s0, .slice A0 l0.length c0] 35)).alloc (.cells #[.slice none 0 0] 23)).alloc (.cells #[.int .i64 k0, .int .i64 n0, .string s0, .slice A0 l0.length c0] 35)) = W0 := ⟨_, rfl⟩
  have hz0' : W0.heap.size = w.heap.size + 3 := by rw [← hW0]; simp
  have hb0 : Below w.heap.size w W0 := by rw [← hW0]; exact ballocs (ballocs (ballocs (Below.refl _ _) _) _) _
  have hbox : Boxed W0 (w.heap.size + 1) 23 (.slice none 0 0) := by
    rw [← hW0]
    have := Blk.new (w.alloc (.cells #[.int .i64 k0, .int .i64 n0, .string s0, .slice A0 l0.length c0] 35)) 23 #[.slice none 0 0]
    rw [World.size_alloc] at this
    exact this.alloc _
  have hBs : Blk W0 (w.heap.size + 1 + 1) 35 #[.int .i64 k0, .int .i64 n0, .string s0, .slice A0 l0.length c0] := by
    rw [← hW0]
    have := Blk.new ((w.alloc (.cells #[.int .i64 k0, .int .i64 n0, .string s0, .slice A0 l0.length c0] 35)).alloc (.cells #[.slice none 0 0] 23)) 35 #[.int .i64 k0, .int .i64 n0, .string s0, .slice A0 l0.length c0]
    simp only [World.size_alloc] at this
    exact this
  have hRb : ∀ k, Rb (w.heap.size + 1) W0 k → k = w.heap.size + 1 := fun k hk => by
    rcases hk with h | ⟨o, n, c, h⟩
    · exact h
    · rw [hbox.cell] at h; injection h with h; cases h
  have hV0 : Vb (w.heap.size + 1) W0 := ⟨by omega, fun k hk => by have := hRb k hk; omega⟩
  rw [hW0]
  refine wpIn_rangeFunc_ownH rfl (by omega) (gf := 43) (lb := #[.pointer (some ⟨w.heap.size + 1 + 1, 0, none⟩)]) rfl trivial (enters_of Try.func43 (by kernel_rfl) rfl)
    (all_stops (w.heap.size + 1) (w.heap.size + 1 + 1) 7 (.mk k0 n0 s0 l0) k0 n0 s0 A0 l0.length c0 W0 hV0 hBs (fun j hj hr => by have := hRb j hr; omega) ((TAt.under HTA.out hb0 (fun _ h => h)).mono fun j hj => Nat.lt_succ_of_lt hj)) Kb.trans (fun W l o o' hl hlo hc _ => Kb.put (w := W0) hV0.1 W l o o' hl hlo hc) (Below.refl _ _) (fun _ => rfl)
    (OutI (w.heap.size + 1) w) (fun _ _ _ => False) (OutI_own (by omega)) (fun _ _ _ _ _ hs _ _ => hs) ⟨⟨_, hbox, World.ownsRow_nil _ _ _ _, trivial⟩, hb0, hV0.1⟩
    (fun x a' Wx => a' = { tmps := #[.agg #[.int .i64 k0, .int .i64 n0, .string s0, .slice A0 l0.length c0], .pointer (some ⟨w.heap.size, 0, none⟩), .slice none 0 0, .pointer (some ⟨w.heap.size + 1, 0, none⟩), .int .u8 x.1, .agg #[.int .i64 k0, .int .i64 n0, .string s0, .slice A0 l0.length c0], .func (.func 43) #[] #[.pointer (some ⟨w.heap.size + 1 + 1, 0, none⟩)], .int .u8 x.1, undef, undef, undef, undef, undef], defers := [] })
    ?hax ?assign ?body ?done ?stop
  case hax => intro y a' _ X Y row h hg hr; exact h
  case assign =>
    rintro l9 pre9 y Wx K9 hI9 hK9
    simp only [enc8]
    gi_wp2
    exact hK9 _ _ (KeepsFrom.refl _ _) (Kb.refl _ _) hI9 rfl
  case body =>
    rintro l9 pre9 y a9 Wx hl9 ⟨r9, hr9⟩ ⟨⟨v9, hv9, hr, _⟩, hbel, hbl⟩ rfl hlt9
    obtain ⟨v1, w1, hrun, hown, hg, _, hat⟩ := run_append_own_at (P := Try.prog) (Wx.alloc (.cells #[.int .u8 y.1] 5)) w.heap.size 23 23 5 i0 _ 1 1 Try.underlying23 hi hz0 hz1 hz2 rfl (by decide)
      v9 pre9.length (encs8 pre9) (hr.alloc _) ⟨Wx.heap.size, 0, none⟩ 1 1 [.int .u8 y.1] rfl (cell_one_new _ _ _) (by simp [Value.oneCell']) (by unfold maxLen; omega) (by omega) (by have := hbel.size; simp; omega)
    have HST := Lib.hid (out_step (B := W0.heap.size) (by omega) hv9 hr hbel hown hg hat)
    obtain ⟨g1, c1, rfl⟩ := ownsRow_succ hown
    have hv1 : Boxed w1 (w.heap.size + 1) 23 v9 := (hv9.alloc _).kept hg (hv9.not_row (by decide) hr)
    have hq := hv9.cell
    have hq1 := hv1.cell
    have hf1 := hv1.frozen
    have HRUN := Lib.hid hrun
    clear hrun hown hg hat hr hbel
    gi_wp2_with (first
      | (gi_at_builtin; refine wpListIn_append_run rfl (.tmp 8) (.tmp 10) 23 rfl _ _ _ rfl rfl HRUN.out ?_)
      | fail)
    exact HST.out
  case done =>
    rintro D xs Wd hD hxs ⟨⟨v9, hv9, hr, _⟩, hbel, hbl⟩ hdf
    rw [hxs] at hr
    have hq := hv9.cell
    have HDF := Lib.hid hdf
    clear hdf
    gi_wp2
    refine leaves_marks [D] _ (by simp) (fun D' hD' => ?_) fun W' hk' => ?_
    · obtain rfl : D' = D := by simpa using hD'
      exact HDF.out
    · refine ⟨v9, by simp [results, Try.results16, go_sem], v9, rfl, ownsRow_keep hr hk' (fun r hrr hm => ?_), hbel.trans (hk'.to_below hbel.size (fun i _ hi => by have : i = D := (by simpa using hi); omega))⟩
      have hm : r = D := by simpa using hm
      subst hm
      rcases hr.2 with ⟨h, _⟩ | ⟨g, cap, cur, h, _, hh, _⟩
      · rw [h] at hrr; cases hrr
      · rw [h] at hrr
        have : g = r := by injection hrr
        subst this
        rw [HDF.out] at hh
        cases hh
  case stop => rintro D c9 pre9 W9 _ _ h _; exact h.elim
end Go.Proofs.Ytbpdaoedmjpdpaa.Hs
