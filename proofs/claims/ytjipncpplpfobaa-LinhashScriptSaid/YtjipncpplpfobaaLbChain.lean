/- linhash: all (an iterator), and Chain, which collects what it tells. -/
import Derived.Test.YtjipncpplpfobaaLbRem
import Derived.Test.YtjipncpplpfobaaRangeB
import Derived.RangeFuncNested
import Derived.RangeFuncBound
import Derived.RangeFuncCalls
import Derived.RangeFuncLeaves
import Derived.RangeFuncBox
import Derived.Shelf.Abstract
import Derived.WalkKit
import Derived.OwnWalkIn
import Derived.TacticsInMore
import Derived.LoopNIn
import Derived.LoopIn
namespace Go.Proofs.Ytjipncpplpfobaa.Lb
open Go.RowKit Go.Shelf K Hs
set_option linter.unusedVariables false
set_option linter.unusedSimpArgs false
attribute [local go_sem] Oper.semAt_some

/-- Blocks in Q lie as they lay. -/
def KQ (Q : Nat → Prop) (X Y : World) : Prop := X.heap.size ≤ Y.heap.size ∧ ∀ k, Q k → k < X.heap.size → Y.heap[k]? = X.heap[k]?
theorem KQ.refl (Q : Nat → Prop) (X : World) : KQ Q X X := ⟨Nat.le_refl _, fun _ _ _ => rfl⟩
theorem KQ.trans {Q : Nat → Prop} {X Y Z : World} (h : KQ Q X Y) (k : KQ Q Y Z) : KQ Q X Z := ⟨Nat.le_trans h.1 k.1, fun i hi hl => (k.2 i hi (Nat.lt_of_lt_of_le hl h.1)).trans (h.2 i hi hl)⟩
theorem KQ.put {Q : Nat → Prop} {w : World} (hQ : ∀ k, Q k → k < w.heap.size) (W : World) (l : Nat) (o o' : Obj) (hl : w.heap.size ≤ l) (h : W.heap[l]? = some o) (_ : o.isCells = false) (_ : o.isWalk = false) : KQ Q W (W.putObj l o') :=
  ⟨(grownBy_putObj' W l o').size, fun k hk hlt => World.putObj_heap_other (fun e => by have := hQ k hk; omega)⟩
theorem KQ.cell {Q : Nat → Prop} {X Y : World} (h : KQ Q X Y) {p : Addr} (hp : Q p.block) (hl : p.block < X.heap.size) : Y.cell? p = X.cell? p := World.cell?_of_block (w := X) (h.2 _ hp hl)
theorem KQ.alloc {Q : Nat → Prop} (X : World) (o : Obj) : KQ Q X (X.alloc o) := ⟨by simp, fun k _ hl => Below.heap_alloc X o k hl⟩
theorem abides_alloc {β : Type} {B : Nat} {J : β → World → Prop} (hJ : AbidesFrom B J) {s : β} {W : World} (o : Obj) (h : J s W) : J s (W.alloc o) := hJ s W _ none h (World.grownBy_alloc W o none) (fun r e => by cases e)
theorem abides_drewN {β : Type} {B : Nat} {J : β → World → Prop} (hJ : AbidesFrom B J) {s : β} {W : World} {d : Nat} (h : J s W) : J s (W.drewN d) := hJ s W _ none h ⟨rfl, rfl, rfl, Nat.le_refl _, fun _ _ _ => rfl⟩ (fun r e => by cases e)
theorem quiet_left {P : Program} {f : Nat} {args : Array Value} {w : World} {n : Nat} {v : Value} (h : Calls P f args (w.drewN n) fun e w' => e = .returned v ∧ w.drewN n = w') :
    Calls P f args (w.drewN n) fun e w'' => e = .returned v ∧ ∃ m, w'' = w.drewN m := h.mono fun _ _ ⟨he, hm⟩ => ⟨he, n, hm.symm⟩

def encI (x : It) : Array Value := #[.agg #[.int .u32 x.1, .int .i64 x.2]]
/-- The items of a hash. -/
def fil (h : Int) (l : List It) : List It := l.filter (·.1 == h)
theorem fil_yes {h : Int} {l : List It} {k : Nat} {x : It} (hk : l[k]? = some x) (e : x.1 = h) : fil h (l.take (k + 1)) = fil h (l.take k) ++ [x] := by
  unfold fil; rw [List.take_add_one, hk, List.filter_append]; simp [e]
theorem fil_no {h : Int} {l : List It} {k : Nat} {x : It} (hk : l[k]? = some x) (e : x.1 ≠ h) : fil h (l.take (k + 1)) = fil h (l.take k) := by
  unfold fil; rw [List.take_add_one, hk, List.filter_append]; simp [e]
theorem fil_take (h : Int) (l : List It) (k : Nat) : fil h (l.take k) <+: fil h l := by
  refine ⟨fil h (l.drop k), ?_⟩
  unfold fil
  rw [← List.filter_append, List.take_append_drop]

set_option maxRecDepth 100000 in
set_option maxHeartbeats 8000000 in
theorem all1_in (m l Bp Bh g gr cap n mm c : Nat) (h : Int) (A : Option Addr) (lst : List It) (Q : Nat → Prop) (hQh : Q Bh) (hl : lst.length ≤ 1099511627776) (J Jx : List It → World → Prop) (W : World) (hJ : AbidesFrom W.heap.size J)
    (hY : ∀ pre x W1, J pre W1 → pre.length < (fil h lst).length → YieldAt Fence.wide m Try.prog l (encI x) W1 fun e W' =>
      (e = .returned (.bool true) ∧ J (pre ++ [x]) W' ∧ KQ Q W1 W') ∨ (e = .returned (.bool false) ∧ Jx (pre ++ [x]) W'))
    (hBp : W.cell? ⟨Bp, 0, none⟩ = some (.pointer (some ⟨g, 0, none⟩))) (hBh : W.cell? ⟨Bh, 0, none⟩ = some (.int .u32 h)) (hBl : Bh < W.heap.size)
    (hg2 : W.cell? ⟨g, 2, none⟩ = some (.slice (some ⟨gr, 0, none⟩) mm cap)) (hgr : W.cell? ⟨gr, n, none⟩ = some (.slice A lst.length c)) (h0 : 0 ≤ h) (h1 : h ≤ 4294967295) (m1 : 1 ≤ mm) (m2 : mm ≤ 1048576) (hn : bk h mm = n)
    (hr : RdI W W.heap.size A lst) (hq : ∀ gi, A = some ⟨gi, 0, none⟩ → lst ≠ [] → Q gi) (hJ0 : J [] W) :
    CallsIn Fence.wide (m + 1) Try.prog 45 #[.func (.yield l) #[] #[], .pointer (some ⟨Bp, 0, none⟩), .pointer (some ⟨Bh, 0, none⟩)] W fun e W' => (∃ v, e = .returned v) ∧
      ((∃ ys, ys = fil h lst ∧ J ys W') ∨ (∃ pre, pre <+: fil h lst ∧ Jx pre W')) := by
  have hlt := bk_lt (h := h) m1 m2
  have HOF := Lib.hid (show ∀ d, Calls Try.prog 38 #[.pointer (some ⟨g, 0, none⟩), .int .u32 h] (W.drewN d) fun e w' => e = .returned (.int .i64 (n : Int)) ∧ W.drewN d = w' from fun d => by rw [← hn]; exact of_any g gr mm cap h (W.drewN d) hg2 h0 h1 m1 m2)
  rw [hn] at hlt
  have hnm : (n : Int) < (mm : Int) := by omega
  have hn0 : (0 : Int) ≤ (n : Int) := by omega
  have hll : lst.length < 9223372036854775807 := by omega
  have HJ := Lib.hid hJ
  have HJ0 := Lib.hid hJ0
  clear hn h0 h1 m1 m2 hlt hJ hJ0
  refine callsIn_of_wp Try.func45 rfl trivial ?_ rfl
  simp only [Try.ntmps45, List.size_toArray, List.length_cons, List.length_nil, Nat.reduceAdd, Nat.reduceSub, Array.replicate_succ, Array.replicate_zero, List.push_toArray, List.append_toArray, List.nil_append, List.cons_append]
  gi_wp2
  refine wpIn_wide.2 ?_
  go_quiet (first | (go_at_call 38; exact quiet_left (HOF.out _)) | fail)
  have HJ1 := Lib.hid (abides_drewN (d := nq) HJ.out HJ0.out)
  have hk1 : KQ Q W (W.drewN nq) := ⟨Nat.le_refl _, fun _ _ _ => rfl⟩
  have HK1 := Lib.hid hk1
  clear hk1
  gi_wp2
  gi_loopw [16] (fun i wr => ∃ k : Nat, k ≤ lst.length ∧ i = .int .i64 (k : Int) ∧ J (fil h (lst.take k)) wr ∧ KQ Q W wr) (fun i _ => lst.length - (intOf i).toNat)
  case atStart => exact ⟨0, Nat.zero_le _, rfl, by simpa [fil] using HJ1.out, HK1.out⟩
  case round =>
    obtain ⟨k, hk, rfl, hJs, hkq⟩ := hrel
    clear HK1 HJ1 HJ0
    by_cases hlt : k < lst.length
    · obtain ⟨⟨x, y⟩, hx⟩ : ∃ x, lst[k]? = some x := ⟨_, List.getElem?_eq_getElem hlt⟩
      obtain ⟨gi, rfl, hgi, c0, c1⟩ := hr k _ hx
      have hQi := hq gi rfl (by rintro rfl; simp at hx)
      have d0 := (hkq.cell (p := ⟨gi, k * 2, none⟩) hQi hgi).trans c0
      have d1 := (hkq.cell (p := ⟨gi, k * 2 + 1, none⟩) hQi hgi).trans c1
      have db := (hkq.cell (p := ⟨Bh, 0, none⟩) hQh hBl).trans hBh
      have hBl2 : Bh < wr.heap.size := Nat.lt_of_lt_of_le hBl hkq.1
      have db2 : (wr.alloc (.cells #[.int .u32 x, .int .i64 y] 54)).cell? ⟨Bh, 0, none⟩ = some (.int .u32 h) := (World.cell?_alloc_lt _ _ _ hBl2).trans db
      have HKQ := Lib.hid (hkq.trans (KQ.alloc wr (.cells #[.int .u32 x, .int .i64 y] 54)))
      have HJA := Lib.hid (abides_alloc HJ.out (.cells #[.int .u32 x, .int .i64 y] 54) hJs)
      by_cases e : x = h
      · have hst := fil_yes hx e
        have hlen : (fil h (lst.take k)).length < (fil h lst).length := by
          have := (fil_take h lst (k + 1)).length_le
          rw [hst] at this
          simp at this
          omega
        obtain ⟨fn, tmps, assign, body, hy, hR⟩ := hY _ (x, y) _ HJA.out hlen
        rw [← hst] at hR
        simp only [encI] at hy
        have HPX := Lib.hid (fil_take h lst (k + 1))
        subst e
        clear hst hY hx hJs hkq c0 c1 hr hq
        gi_wp2
        refine hR.mono ?_
        rintro e W3 (⟨rfl, hJ3, hk3⟩ | ⟨rfl, hJx3⟩)
        · have HJ3 := Lib.hid hJ3; have HK3 := Lib.hid hk3
          clear hJ3 hk3
          gi_wp2
          go_roundw
          case rel => exact ⟨k + 1, by omega, by go_num, HJ3.out, HKQ.out.trans HK3.out⟩
          case measure => simp [intOf]; omega
        · have HJ3 := Lib.hid hJx3
          clear hJx3
          gi_wp2
          refine bodyPost_ret (results_none rfl _ _ _) rfl ?_
          exact ⟨⟨_, rfl⟩, .inr ⟨_, HPX.out, HJ3.out⟩⟩
      · have hst := fil_no hx e
        rw [← hst] at HJA
        have hq1 : (x == h) = false := by simpa using e
        have hq2 : decide (x = h) = false := decide_eq_false e
        clear hst hY hx hJs hkq c0 c1 hr hq
        gi_wp2
        refine ⟨fun f hf => (by cases hf), ?_⟩
        gi_wp2
        go_roundw
        case rel => exact ⟨k + 1, by omega, by go_num, HJA.out, HKQ.out⟩
        case measure => simp [intOf]; omega
    · obtain rfl : k = lst.length := by omega
      rw [List.take_length] at hJs
      gi_wp2
      go_end0
      exact ⟨⟨_, rfl⟩, .inl ⟨_, rfl, hJs⟩⟩

theorem wpListIn_append_run {F : Fence} {n : Nat} {P : Program} {w w' : World} {ops : Array Oper} {rest : List Oper} {o : Oper} {a : Act} {Q : Exit → Act → World → Prop}
    (hg : o.guard = none) (s x : Operand) (t : TypeId) (hop : o.op = Op.call { callee := Callee.builtin Builtin.append, args := #[s, x], argTypes := #[t, t] }) (v u v' : Value) (hs : a.eval s = v) (hx : a.eval x = u)
    (hrun : (Builtin.append_ #[t, t] o.type #[v, u]).run P w = .ok v' w') (hK : wpListIn F n P ops Q rest (a.put o.dst v') w') : wpListIn F n P ops Q (o :: rest) a w := by
  refine wpListIn_plain hg fun K hK' => ?_
  unfold Oper.wpIn
  refine ⟨?_, ?_⟩
  · simp [Oper.about, hop, resolve, Target.leads, Sem.run_pure]
  · rw [Oper.semAt_plain F _ _ (by rw [hop]; intro c hc'; cases hc')]
    unfold execOp
    simp only [hop, resolve, invoke, builtin, Sem.run_bind, Sem.run_pure, Result.andThen_ok, List.map_toArray, List.map_cons, List.map_nil, hs, hx, hrun]
    exact hK' _ _ hK

/-! ### Chain -/
theorem all_stops (m Bp Bh g gr cap n mm c : Nat) (h : Int) (A : Option Addr) (lst : List It) (Q : Nat → Prop) (hQh : Q Bh) (hl : lst.length ≤ 1099511627776) (w : World)
    (hBp : w.cell? ⟨Bp, 0, none⟩ = some (.pointer (some ⟨g, 0, none⟩))) (hBh : w.cell? ⟨Bh, 0, none⟩ = some (.int .u32 h))
    (hg2 : w.cell? ⟨g, 2, none⟩ = some (.slice (some ⟨gr, 0, none⟩) mm cap)) (hgr : w.cell? ⟨gr, n, none⟩ = some (.slice A lst.length c)) (h0 : 0 ≤ h) (h1 : h ≤ 4294967295) (m1 : 1 ≤ mm) (m2 : mm ≤ 1048576) (hn : bk h mm = n)
    (hr : RdI w w.heap.size A lst) (hq : ∀ gi, A = some ⟨gi, 0, none⟩ → lst ≠ [] → Q gi) :
    SeqStopsK Fence.wide (m + 1) Try.prog 45 #[.pointer (some ⟨Bp, 0, none⟩), .pointer (some ⟨Bh, 0, none⟩)] encI (KQ Q) (fun xs => xs = fil h lst) (fun xs => xs <+: fil h lst) (fil h lst).length w := by
  intro l J Jx W hW hJ _ hY hJ0
  have lt : ∀ {p : Addr} {v : Value}, w.cell? p = some v → W.cell? p = some v := fun hc => (hW.cell (World.block_lt_of_cell? _ _ hc)).trans hc
  exact all1_in m l Bp Bh g gr cap n mm c h A lst Q hQh hl J Jx W hJ hY (lt hBp) (lt hBh) (Nat.lt_of_lt_of_le (World.block_lt_of_cell? _ _ hBh) hW.size) (lt hg2) (lt hgr) h0 h1 m1 m2 hn ((hr.below hW).more hW.size) hq hJ0
theorem all_in (n g : Nat) (h : Int) (w : World) :
    CallsIn Fence.wide n Try.prog 42 #[.pointer (some ⟨g, 0, none⟩), .int .u32 h] w fun e w' => e = .returned (.func (.func 45) #[] #[.pointer (some ⟨w.heap.size, 0, none⟩), .pointer (some ⟨w.heap.size + 1, 0, none⟩)]) ∧ w' = (w.alloc (.cells #[.pointer (some ⟨g, 0, none⟩)] 23)).alloc (.cells #[.int .u32 h] 32) := by
  refine callsIn_of_wp Try.func42 rfl trivial ?_ rfl
  simp only [Try.ntmps42, List.size_toArray, List.length_cons, List.length_nil, Nat.reduceAdd, Nat.reduceSub, Array.replicate_succ, Array.replicate_zero, List.push_toArray, List.append_toArray, List.nil_append, List.cons_append]
  gi_wp2
  go_ret
  exact ⟨by simp, rfl⟩
/-- What has been collected. -/
def OutI (w : World) (pre : List It) (W : World) : Prop :=
  (∃ v, Boxed W w.heap.size 43 v ∧ W.ownsRow w.heap.size 54 2 v pre.length (itL pre) ∧ ∀ r, v.ownBlock = some r → w.heap.size + 3 ≤ r) ∧ Below w.heap.size w W ∧ w.heap.size + 3 ≤ W.heap.size
theorem OutI_own {w : World} : OwnFrom (w.heap.size + 3) (OutI w) := by
  intro pre X Y row ⟨h1, h2, h3⟩ hg hr
  exact ⟨holdsRow_own (β := List It) w.heap.size w.heap.size 43 54 2 (fun s => s.length) (fun s => itL s) (fun _ v => ∀ r, v.ownBlock = some r → w.heap.size + 3 ≤ r) pre X Y row h1 hg (fun r e => (hr r e).2), h2.grown hg h2.size (fun r e => by have := (hr r e).1; omega), Nat.le_trans h3 hg.size⟩
theorem OutI_alloc {w W : World} {pre : List It} (h : OutI w pre W) (o : Obj) : OutI w pre (W.alloc o) := OutI_own pre W _ none h (World.grownBy_alloc W o none) (fun r e => by cases e)
theorem out_step {w Wx w1 : World} {pre : List It} {x : It} {A : Option Addr} {c g1 c1 : Nat} (hv : Boxed Wx w.heap.size 43 (.slice A pre.length c)) (hr : Wx.ownsRow w.heap.size 54 2 (.slice A pre.length c) pre.length (itL pre)) (h3 : ∀ r, (Value.slice A pre.length c).ownBlock = some r → w.heap.size + 3 ≤ r)
    (hbel : Below w.heap.size w Wx) (hz : w.heap.size + 3 ≤ Wx.heap.size)
    (hown : w1.ownsRow w.heap.size 54 2 (.slice (some ⟨g1, 0, none⟩) (pre ++ [x]).length c1) (pre ++ [x]).length (itL (pre ++ [x]))) (hg : (Wx.alloc (.cells #[.int .u32 x.1, .int .i64 x.2] 54)).grownBy w1 (Value.slice A pre.length c).ownBlock)
    (hat : ∀ r, (Value.slice (some ⟨g1, 0, none⟩) (pre ++ [x]).length c1).ownBlock = some r → (Value.slice A pre.length c).ownBlock = some r ∨ Wx.heap.size ≤ r) :
    KeepsFrom (w.heap.size + 3) Wx (w1.setCell ⟨w.heap.size, 0, none⟩ (.slice (some ⟨g1, 0, none⟩) (pre ++ [x]).length c1)) ∧ KQ (fun k => k < w.heap.size ∨ k = w.heap.size + 1 + 1) Wx (w1.setCell ⟨w.heap.size, 0, none⟩ (.slice (some ⟨g1, 0, none⟩) (pre ++ [x]).length c1)) ∧ OutI w (pre ++ [x]) (w1.setCell ⟨w.heap.size, 0, none⟩ (.slice (some ⟨g1, 0, none⟩) (pre ++ [x]).length c1)) := by
  obtain ⟨hv1, hv2, hr2, hk2, hb2⟩ := hv.appended (by decide) hr hbel.size (Nat.le_refl _) hown hg
  have hsz : Wx.heap.size + 1 ≤ w1.heap.size := by have := hg.size; rw [World.size_alloc] at this; exact this
  have hzz : (w1.setCell ⟨w.heap.size, 0, none⟩ (.slice (some ⟨g1, 0, none⟩) (pre ++ [x]).length c1)).heap.size = w1.heap.size := by simp [World.setCell]
  refine ⟨hk2.from _, ⟨by omega, fun k hk hl => ?_⟩, ⟨_, hv2, hr2, fun r hr5 => ?_⟩, hbel.trans hb2, by omega⟩
  · have h1 : k ≠ w.heap.size := by omega
    have h2 : (Value.slice A pre.length c).ownBlock ≠ some k := fun e => by have := h3 k e; omega
    rw [Below.heap_setCell w1 _ _ k h1]
    exact (hg.block k (by rw [World.size_alloc]; omega) (fun e => h2 e.symm)).trans (Below.heap_alloc Wx _ k hl)
  · rcases hat r hr5 with h | h
    · exact h3 r h
    · omega
theorem item_run2 (base : Nat) (W : World) (A : Option Addr) (c : Nat) (l : List It) (x : It) (hr : W.ownsRow base 54 2 (.slice A l.length c) l.length (itL l)) (hl : l.length ≤ 1099511627776) (hb : base ≤ W.heap.size) :
    ∃ g1 c1 w1, (Builtin.append_ #[43, 43] 43 #[.slice A l.length c, .slice (some ⟨W.heap.size, 0, none⟩) 1 1]).run Try.prog (W.alloc (.cells #[.int .u32 x.1, .int .i64 x.2] 54)) = .ok (.slice (some ⟨g1, 0, none⟩) (l.length + 1) c1) w1 ∧
      w1.ownsRow base 54 2 (.slice (some ⟨g1, 0, none⟩) (l ++ [x]).length c1) (l ++ [x]).length (itL (l ++ [x])) ∧ (W.alloc (.cells #[.int .u32 x.1, .int .i64 x.2] 54)).grownBy w1 (Value.slice A l.length c).ownBlock ∧
      (∀ r, (Value.slice (some ⟨g1, 0, none⟩) (l ++ [x]).length c1).ownBlock = some r → (Value.slice A l.length c).ownBlock = some r ∨ W.heap.size ≤ r) := by
  obtain ⟨i0, hi, hz0, hz1, hz2⟩ := info_parts infoI
  obtain ⟨v1, w1, hrun, hown, hg, _, hat⟩ := run_append_own_at (P := Try.prog) (W.alloc (.cells #[.int .u32 x.1, .int .i64 x.2] 54)) base 43 43 54 i0 _ 2 16 Try.underlying43 hi hz0 hz1 hz2 rfl (by decide)
    (.slice A l.length c) l.length (itL l) (hr.alloc _) ⟨W.heap.size, 0, none⟩ 1 1 [.int .u32 x.1, .int .i64 x.2] rfl (cell_two_new _ _ _ _) (by simp [Value.oneCell']) (by unfold maxLen; omega) (by omega) (by simp; omega)
  obtain ⟨g1, c1, rfl⟩ := ownsRow_succ hown
  have e1 : (l ++ [x]).length = l.length + 1 := by simp
  refine ⟨g1, c1, w1, hrun, ?_, hg, fun r hr2 => ?_⟩
  · rw [e1, itL_append]
    exact hown
  · rw [e1] at hr2
    rcases hat with h1 | h1
    · left; rw [← h1]; exact hr2
    · right
      rw [h1] at hr2
      injection hr2 with hr2
      rw [World.size_alloc] at hr2
      omega
section
variable {w : World} {G : Nat → Prop} {g least gr cap : Nat} {cnt : Int} {L : List (List It)}
/-- A row of items, new. -/
def RowPost (w : World) (l : List It) (e : Ending) (w' : World) : Prop := ∃ v, e = .returned v ∧ w'.ownsRow w.heap.size 54 2 v l.length (itL l) ∧ Below w.heap.size w w'
set_option maxRecDepth 100000 in
set_option maxHeartbeats 8000000 in
theorem chain_any (hB : LB w G g least cnt gr cap L) (h : Int) (h0 : 0 ≤ h) (h1 : h ≤ 4294967295) (m1 : 1 ≤ L.length) (m2 : L.length ≤ 1048576) (hl : ∀ l ∈ L, l.length ≤ 1099511627776) :
    Calls Try.prog 15 #[.pointer (some ⟨g, 0, none⟩), .int .u32 h] w (RowPost w (fil h (L.getD (bk h L.length) []))) := by
  have hlt := bk_lt (h := h) m1 m2
  obtain ⟨q0, q1, q2, f0, f1, f2, g1, g2, n1, n2, hne⟩ := hB.cells
  obtain ⟨n, hn⟩ : ∃ n, bk h L.length = n := ⟨_, rfl⟩
  rw [hn] at hlt ⊢
  obtain ⟨lst, hll⟩ : ∃ l, L[n]? = some l := ⟨_, List.getElem?_eq_getElem hlt⟩
  have hgd : L.getD n [] = lst := by rw [List.getD_eq_getElem?_getD, hll]; rfl
  rw [hgd]
  obtain ⟨A, c, hcell, hfz, hown, hblk, hA⟩ := hB.2.2.2.spot hll
  have hlen : lst.length ≤ 1099511627776 := hl lst (List.mem_of_getElem? hll)
  have hRd := RdI.of_own hown
  obtain ⟨mm, hm⟩ : ∃ m, L.length = m := ⟨_, rfl⟩
  rw [hm] at q2 hn m1 m2 hlt
  obtain ⟨i0, hi, hz0, hz1, hz2⟩ := info_parts infoI
  have HN := Lib.hid (fun W0 (hc : W0.cell? ⟨g, 2, none⟩ = some (.slice (some ⟨gr, 0, none⟩) mm cap)) => none_no g gr mm cap W0 hc)
  obtain ⟨F, hF⟩ : ∃ F, fil h lst = F := ⟨_, rfl⟩
  have hFl : F.length ≤ 1099511627776 := by
    rw [← hF]; unfold fil
    have := List.length_filter_le (fun x : It => x.1 == h) lst
    omega
  rw [hF]
  refine (callsIn_wide (n := 9)).1 ?_
  refine callsIn_of_wp_marks Try.func15 rfl trivial ?_ rfl
  simp only [Try.ntmps15, List.size_toArray, List.length_cons, List.length_nil, Nat.reduceAdd, Nat.reduceSub, Array.replicate_succ, Array.replicate_zero, List.push_toArray, List.append_toArray, List.nil_append, List.cons_append]
  gi_wp2_with (first
    | (refine ⟨trivial, ?_⟩; gi_at_call 37; refine (callsIn_wide.2 (HN.out _ q2)).mono ?_; rintro e w' ⟨rfl, rfl⟩)
    | (refine ⟨trivial, ?_⟩; gi_at_call 42; refine (all_in _ _ _ _).mono ?_; rintro e w' ⟨rfl, rfl⟩))
  obtain ⟨W0, hW0⟩ : ∃ W0, ((w.alloc (.cells #[.slice none 0 0] 43)).alloc (.cells #[.pointer (some ⟨g, 0, none⟩)] 23)).alloc (.cells #[.int .u32 h] 32) = W0 := ⟨_, rfl⟩
  have hz0' : W0.heap.size = w.heap.size + 3 := by rw [← hW0]; simp
  have hb0 : Below w.heap.size w W0 := by rw [← hW0]; exact (((Below.refl _ _).alloc (Nat.le_refl _) _).alloc (by simp) _).alloc (by simp; omega) _
  have hbox : Boxed W0 w.heap.size 43 (.slice none 0 0) := by
    rw [← hW0]
    exact ((Boxed.new w 43 (.slice none 0 0)).alloc _).alloc _
  have hBp : W0.cell? ⟨w.heap.size + 1, 0, none⟩ = some (.pointer (some ⟨g, 0, none⟩)) := by
    rw [← hW0]
    have := ((Blk.new (w.alloc (.cells #[.slice none 0 0] 43)) 23 #[.pointer (some ⟨g, 0, none⟩)]).alloc (.cells #[.int .u32 h] 32)).cell 0
    simp only [World.size_alloc] at this
    exact this
  have hBh : W0.cell? ⟨w.heap.size + 1 + 1, 0, none⟩ = some (.int .u32 h) := by
    rw [← hW0]
    have := (Blk.new ((w.alloc (.cells #[.slice none 0 0] 43)).alloc (.cells #[.pointer (some ⟨g, 0, none⟩)] 23)) 32 #[.int .u32 h]).cell 0
    simp only [World.size_alloc] at this
    exact this
  have hQ : ∀ k, (k < w.heap.size ∨ k = w.heap.size + 1 + 1) → k < W0.heap.size := fun k hk => by omega
  have hq : ∀ gi, A = some ⟨gi, 0, none⟩ → lst ≠ [] → (gi < w.heap.size ∨ gi = w.heap.size + 1 + 1) := fun gi hA' _ => by
    left
    exact (hblk gi (by rw [hA']; rfl)).2.1
  have lt : ∀ {p : Addr} {v : Value}, w.cell? p = some v → W0.cell? p = some v := fun hc => (hb0.cell (World.block_lt_of_cell? _ _ hc)).trans hc
  have HRun := fun (base : Nat) (W : World) (A : Option Addr) (c : Nat) (l : List It) (x : It) => item_run2 base W A c l x
  rw [hW0]
  refine wpIn_rangeFunc_ownH rfl (by omega) (gf := 45) (lb := #[.pointer (some ⟨w.heap.size + 1, 0, none⟩), .pointer (some ⟨w.heap.size + 1 + 1, 0, none⟩)]) rfl trivial (enters_of Try.func45 (by kernel_rfl) rfl)
    (all_stops 7 (w.heap.size + 1) (w.heap.size + 1 + 1) g gr cap n mm c h A lst (fun k => k < w.heap.size ∨ k = w.heap.size + 1 + 1) (.inr rfl) hlen W0 hBp hBh (lt q2) (lt hcell) h0 h1 m1 m2 hn ((hRd.below hb0).more (by omega)) hq) KQ.trans (KQ.put hQ) (Below.refl _ _) (fun _ => rfl)
    (OutI w) (fun _ _ _ => False) (by rw [hz0']; exact OutI_own) (fun _ _ _ _ _ hs _ _ => hs) ⟨⟨_, hbox, World.ownsRow_nil _ _ _ _, fun r hr => by simp [Value.ownBlock] at hr⟩, hb0, by omega⟩
    (fun x a' Wx => ∃ Bx, W0.heap.size ≤ Bx ∧ Blk Wx Bx 54 #[.int .u32 x.1, .int .i64 x.2] ∧ a' = { tmps := #[.pointer (some ⟨g, 0, none⟩), .int .u32 h, undef, undef, .slice none 0 0, .pointer (some ⟨w.heap.size, 0, none⟩), .pointer (some ⟨Bx, 0, none⟩), .pointer (some ⟨g, 0, none⟩), .bool false, .pointer (some ⟨g, 0, none⟩), .int .u32 h, .func (.func 45) #[] #[.pointer (some ⟨w.heap.size + 1, 0, none⟩), .pointer (some ⟨w.heap.size + 1 + 1, 0, none⟩)], .agg #[.int .u32 x.1, .int .i64 x.2], undef, undef, undef, undef, undef], defers := [] })
    ?hax ?assign ?body ?done ?stop
  case hax =>
    intro y a' _ X Y row ⟨Bx, h1, h2, h3⟩ hg hr
    exact ⟨Bx, h1, h2.grown hg (fun e => by
      obtain ⟨_, o, ho, hc⟩ := hr Bx e.symm
      unfold Blk at h2
      rw [h2] at ho; cases ho; cases hc), h3⟩
  case assign =>
    rintro l9 pre9 y Wx K9 hI9 hK9
    have hz9 : W0.heap.size ≤ Wx.heap.size := by
      obtain ⟨_, _, h5⟩ := hI9
      omega
    simp only [encI]
    gi_wp2
    exact hK9 _ _ ((KeepsOthers.alloc _ _).from _) (KQ.alloc _ _) (OutI_alloc hI9 _) ⟨Wx.heap.size, hz9, Blk.new _ _ _, rfl⟩
  case body =>
    rintro l9 pre9 y a9 Wx hl9 ⟨r9, hr9⟩ ⟨⟨v9, hv9, hr, h39⟩, hbel, hbl⟩ ⟨Bx, hBx, hX9, rfl⟩ hlt9
    obtain ⟨A9, c9, rfl, _, _⟩ := ownsRow_form hr
    obtain ⟨gx, cx, w1, hrun, hown, hg, hat⟩ := item_run2 w.heap.size Wx A9 c9 pre9 y hr (by rw [hF] at hlt9; omega) hbel.size
    have HST := Lib.hid (out_step hv9 hr h39 hbel hbl hown hg hat)
    have e1 : (pre9 ++ [y]).length = pre9.length + 1 := by simp
    rw [e1, ← hz0'] at HST
    have z0 : Wx.cell? ⟨Bx, 0, none⟩ = some (.int .u32 y.1) := by rw [hX9.cell]; rfl
    have z1 : Wx.cell? ⟨Bx, 1, none⟩ = some (.int .i64 y.2) := by rw [hX9.cell]; rfl
    have hv1 : Boxed w1 w.heap.size 43 (.slice A9 pre9.length c9) := (hv9.alloc _).kept hg (hv9.not_row (by decide) hr)
    have hq := hv9.cell
    have hq1 := hv1.cell
    have hf1 := hv1.frozen
    have HRUN := Lib.hid hrun
    clear hrun hown hg hat hr hbel
    gi_wp2_with (first
      | (gi_at_builtin; refine wpListIn_append_run rfl (.tmp 13) (.tmp 15) 43 rfl _ _ _ rfl rfl HRUN.out ?_)
      | fail)
    exact HST.out
  case done =>
    rintro D xs Wd hD hxs ⟨⟨v9, hv9, hr, _⟩, hbel, hbl⟩ hdf
    rw [hxs] at hr
    have hq := hv9.cell
    have HDF := Lib.hid hdf
    clear hdf
    gi_wp2
    refine leaves_marks [D] _ (by simp) (fun D' hD' => ?_) fun W' hk' => ?_
    · obtain rfl : D' = D := by simpa using hD'
      exact HDF.out
    · refine ⟨v9, by simp [results, Try.results15, go_sem], v9, rfl, ownsRow_keep (by rw [← hF]; exact hr) hk' (fun r hrr hm => ?_), hbel.trans (hk'.to_below hbel.size (fun i _ hi => by have : i = D := (by simpa using hi); omega))⟩
      have hm : r = D := by simpa using hm
      subst hm
      rcases hr.2 with ⟨h, _⟩ | ⟨g, cap, cur, h, _, hh, _⟩
      · rw [h] at hrr; cases hrr
      · rw [h] at hrr
        have : g = r := by injection hrr
        subst this
        rw [HDF.out] at hh
        cases hh
  case stop => rintro D c9 pre9 W9 _ _ h _; exact h.elim
end
end Go.Proofs.Ytjipncpplpfobaa.Lb
