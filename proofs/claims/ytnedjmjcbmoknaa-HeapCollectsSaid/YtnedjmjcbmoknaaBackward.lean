/- slices.Backward at terms: the iterator, by its contract. -/
import Derived.Test.YtnedjmjcbmoknaaRangeB
import Derived.Test.YtnedjmjcbmoknaaTmCopy
import Derived.Shelf.Abstract
import Derived.WalkKit
import Derived.OwnWalkIn
import Derived.TacticsInMore
import Derived.LoopNIn
import Derived.LoopIn
namespace Go.Proofs.Ytnedjmjcbmoknaa.K
open Go.RowKit Go.Shelf
set_option linter.unusedVariables false
set_option linter.unusedSimpArgs false
attribute [local go_sem] Oper.semAt_some

/-- Blocks in Q lie as they lay. -/
def KQ (Q : Nat → Prop) (X Y : World) : Prop := X.heap.size ≤ Y.heap.size ∧ ∀ k, Q k → k < X.heap.size → Y.heap[k]? = X.heap[k]?
theorem KQ.refl (Q : Nat → Prop) (X : World) : KQ Q X X := ⟨Nat.le_refl _, fun _ _ _ => rfl⟩
theorem KQ.trans {Q : Nat → Prop} {X Y Z : World} (h : KQ Q X Y) (k : KQ Q Y Z) : KQ Q X Z := ⟨Nat.le_trans h.1 k.1, fun i hi hl => (k.2 i hi (Nat.lt_of_lt_of_le hl h.1)).trans (h.2 i hi hl)⟩
theorem KQ.put {Q : Nat → Prop} {w : World} (hQ : ∀ k, Q k → k < w.heap.size) (W : World) (l : Nat) (o o' : Obj) (hl : w.heap.size ≤ l) (h : W.heap[l]? = some o) (_ : o.isCells = false) (_ : o.isWalk = false) : KQ Q W (W.putObj l o') :=
  ⟨(grownBy_putObj' W l o').size, fun k hk hlt => World.putObj_heap_other (fun e => by have := hQ k hk; omega)⟩
theorem KQ.cell {Q : Nat → Prop} {X Y : World} (h : KQ Q X Y) {p : Addr} (hp : Q p.block) (hl : p.block < X.heap.size) : Y.cell? p = X.cell? p := World.cell?_of_block (w := X) (h.2 _ hp hl)
theorem KQ.of_below {Q : Nat → Prop} {B : Nat} {X Y : World} (h : Below B X Y) (hQ : ∀ k, Q k → k < B) : KQ Q X Y := ⟨h.size, fun k hk _ => h.block k (hQ k hk)⟩
theorem KQ.of_keep {Q F : Nat → Prop} {X Y : World} (h : Keep F X Y) (hQ : ∀ k, Q k → ¬ F k) : KQ Q X Y := ⟨h.size, fun k hk hl => h.block k hl (hQ k hk)⟩

/-- A term's value, part by part. -/
structure TV where
  k : Int
  n : Int
  s : ByteArray
  A : Option Addr
  m : Nat
  c : Nat
def TV.val (x : TV) : Value := .agg #[.int .i64 x.k, .int .i64 x.n, .string x.s, .slice x.A x.m x.c]
theorem TAt.tv_ {w : World} {F : Nat → Prop} {t : Tm} {v : Value} (h : TAt w F t v) : ∃ x : TV, v = x.val := by
  obtain ⟨A, c, rfl, _⟩ := h.inv
  exact ⟨⟨t.k, t.n, t.s, A, t.l.length, c⟩, rfl⟩
theorem TsAt.tvs_from {w : World} {F : Nat → Prop} {A : Option Addr} {P : TV → Prop} : ∀ (l : List Tm) (j : Nat), (∀ i u, l[i]? = some u → ∃ v, Slot w F A (j + i) v ∧ TAt w F u v) → (∀ u (x : TV), u ∈ l → TAt w F u x.val → P x) →
    ∃ vs : List { x : TV // P x }, vs.length = l.length ∧ TsVs w F l (vs.map (·.1.val)) ∧ ∀ i v, vs[i]? = some v → Slot w F A (j + i) v.1.val
  | [], j, _, _ => ⟨[], rfl, .nil, fun i v hv => by simp at hv⟩
  | u :: l, j, h, hP => by
    obtain ⟨v, h1, h2⟩ := h 0 u rfl
    obtain ⟨x, rfl⟩ := h2.tv_
    obtain ⟨vs, e1, e2, e3⟩ := tvs_from l (j + 1) (fun i u' hu => by rw [show j + 1 + i = j + (i + 1) by omega]; exact h (i + 1) u' (by simpa using hu)) (fun u' x' hm hx => hP u' x' (List.mem_cons_of_mem _ hm) hx)
    refine ⟨⟨x, hP u x (List.mem_cons_self ..) h2⟩ :: vs, by simp [e1], .cons h2 e2, fun i v hv => ?_⟩
    cases i with
    | zero => simp at hv; subst hv; exact h1
    | succ i => rw [show j + (i + 1) = j + 1 + i by omega]; exact e3 i v (by simpa using hv)
theorem TsAt.tvs {w : World} {F : Nat → Prop} {A : Option Addr} {l : List Tm} (h : TsAt w F A l) (P : TV → Prop) (hP : ∀ u (x : TV), u ∈ l → TAt w F u x.val → P x) :
    ∃ vs : List { x : TV // P x }, vs.length = l.length ∧ TsVs w F l (vs.map (·.1.val)) ∧ ∀ i v, vs[i]? = some v → Slot w F A i v.1.val := by
  obtain ⟨vs, h1, h2, h3⟩ := TsAt.tvs_from l 0 (fun i u hu => by rw [Nat.zero_add]; exact h i u hu) hP
  exact ⟨vs, h1, h2, fun i v hv => by have := h3 i v hv; rwa [Nat.zero_add] at this⟩
/-- What has come, behind k rounds: the last k, from behind. -/
def bk {P : TV → Prop} (vs : List { x : TV // P x }) (k : Nat) : List (Nat × { x : TV // P x }) := (List.range k).filterMap fun j => (vs[vs.length - 1 - j]?).map fun v => (vs.length - 1 - j, v)
theorem bk_succ {P : TV → Prop} {vs : List { x : TV // P x }} {k i : Nat} {v : { x : TV // P x }} (hi : i = vs.length - 1 - k) (hv : vs[i]? = some v) : bk vs (k + 1) = bk vs k ++ [(i, v)] := by
  subst hi
  simp [bk, List.range_succ, List.filterMap_append, hv]
theorem bk_length {P : TV → Prop} (vs : List { x : TV // P x }) (k : Nat) (hk : k ≤ vs.length) : (bk vs k).length = k := by
  induction k with
  | zero => simp [bk]
  | succ k ih =>
    have hv : vs[vs.length - 1 - k]? = some (vs[vs.length - 1 - k]'(by omega)) := List.getElem?_eq_getElem (by omega)
    rw [bk_succ rfl hv, List.length_append, ih (by omega)]
    rfl
theorem bk_all {P : TV → Prop} (vs : List { x : TV // P x }) : ∀ k, k ≤ vs.length → (bk vs k).map (·.2) = (vs.drop (vs.length - k)).reverse := by
  intro k
  induction k with
  | zero => intro _; simp [bk]
  | succ k ih =>
    intro hk
    have hlt : vs.length - 1 - k < vs.length := by omega
    have hv : vs[vs.length - 1 - k]? = some (vs[vs.length - 1 - k]'hlt) := List.getElem?_eq_getElem hlt
    rw [bk_succ rfl hv, List.map_append, ih (by omega)]
    have hd : vs.drop (vs.length - (k + 1)) = vs[vs.length - 1 - k]'hlt :: vs.drop (vs.length - k) := by
      rw [show vs.length - (k + 1) = vs.length - 1 - k by omega, List.drop_eq_getElem_cons hlt, show vs.length - 1 - k + 1 = vs.length - k by omega]
    rw [hd, List.reverse_cons]
    rfl
theorem bk_whole {P : TV → Prop} (vs : List { x : TV // P x }) : (bk vs vs.length).map (·.2) = vs.reverse := by
  rw [bk_all vs vs.length (Nat.le_refl _), Nat.sub_self, List.drop_zero]
def bkEnc {P : TV → Prop} (x : Nat × { x : TV // P x }) : Array Value := #[.int .i64 (x.1 : Int), x.2.1.val]

set_option maxRecDepth 100000 in
set_option maxHeartbeats 4000000 in
theorem back1_in (m l Bs c : Nat) (A : Option Addr) {P : TV → Prop} (vs : List { x : TV // P x }) (Q : Nat → Prop) (hQs : Q Bs) (hl : vs.length ≤ maxLen) (J Jx : List (Nat × { x : TV // P x }) → World → Prop)
    (hY : ∀ pre x W, J pre W → pre.length < vs.length → YieldAt Fence.wide m Try.prog l (bkEnc x) W fun e W' =>
      (e = .returned (.bool true) ∧ J (pre ++ [x]) W' ∧ KQ Q W W') ∨ (e = .returned (.bool false) ∧ Jx (pre ++ [x]) W'))
    (W : World) (hBs : W.cell? ⟨Bs, 0, none⟩ = some (.slice A vs.length c)) (hBl : Bs < W.heap.size) (hs : ∀ i v, vs[i]? = some v → Slot W (fun b => Q b ∧ b < W.heap.size) A i v.1.val) (h0 : J [] W) :
    CallsIn Fence.wide (m + 1) Try.prog 63 #[.func (.yield l) #[] #[], .pointer (some ⟨Bs, 0, none⟩)] W fun e W' => (∃ v, e = .returned v) ∧
      ((∃ ys, ys = bk vs vs.length ∧ J ys W') ∨ (∃ pre, (∃ k, k ≤ vs.length ∧ pre = bk vs k) ∧ Jx pre W')) := by
  unfold maxLen at hl
  refine callsIn_of_wp Try.func63 rfl trivial ?_ rfl
  simp only [Try.ntmps63, List.size_toArray, List.length_cons, List.length_nil, Nat.reduceAdd, Nat.reduceSub, Array.replicate_succ, Array.replicate_zero, List.push_toArray, List.append_toArray, List.nil_append, List.cons_append]
  gi_wp2
  gi_loopw [3] (fun i wr => ∃ k : Nat, k ≤ vs.length ∧ i = .int .i64 ((vs.length : Int) - 1 - (k : Int)) ∧ J (bk vs k) wr ∧ KQ Q W wr)
    (fun i _ => (intOf i + 1).toNat)
  case atStart => exact ⟨0, Nat.zero_le _, by simp, h0, KQ.refl _ _⟩
  case round =>
    obtain ⟨k, hk, rfl, hJs, hkq⟩ := hrel
    have hcb : wr.cell? ⟨Bs, 0, none⟩ = some (.slice A vs.length c) := (hkq.cell (p := ⟨Bs, 0, none⟩) hQs hBl).trans hBs
    by_cases hlt : k < vs.length
    · obtain ⟨i, hi⟩ : ∃ i : Nat, i = vs.length - 1 - k := ⟨_, rfl⟩
      have hiv : i < vs.length := by omega
      obtain ⟨v, hv⟩ : ∃ v, vs[i]? = some v := ⟨_, List.getElem?_eq_getElem hiv⟩
      obtain ⟨b, o, x0, x1, x2, x3, rfl, hb, hval, d0, d1, d2, d3⟩ := hs i v hv
      unfold TV.val at hval
      injection hval with hval
      simp only [Array.mk.injEq, List.cons.injEq, and_true] at hval
      obtain ⟨f0, f1, f2, f3⟩ := hval
      subst f0 f1 f2 f3
      have e0 := (hkq.cell (p := ⟨b, o + i * 4, none⟩) hb.1 hb.2).trans d0
      have e1 := (hkq.cell (p := ⟨b, o + i * 4 + 1, none⟩) hb.1 hb.2).trans d1
      have e2 := (hkq.cell (p := ⟨b, o + i * 4 + 2, none⟩) hb.1 hb.2).trans d2
      have e3 := (hkq.cell (p := ⟨b, o + i * 4 + 3, none⟩) hb.1 hb.2).trans d3
      have hst := bk_succ hi hv
      obtain ⟨fn, tmps, assign, body, hy, hR⟩ := hY _ (i, v) wr hJs (by rw [bk_length vs k (by omega)]; exact hlt)
      rw [← hst] at hR
      have HS := Lib.hid hst; have HI := Lib.hid hi
      rw [show (vs.length : Int) - 1 - (k : Int) = (i : Int) from by omega]
      simp only [bkEnc, TV.val] at hy
      clear hst hi d0 d1 d2 d3 hs hv hY
      gi_wp2
      refine hR.mono ?_
      rintro e W3 (⟨rfl, hJ3, hk3⟩ | ⟨rfl, hJx3⟩)
      · have HJ := Lib.hid hJ3; have HK := Lib.hid hk3
        clear hJ3 hk3
        gi_wp2
        go_roundw
        case rel => exact ⟨k + 1, by omega, by have := HI.out; go_num, HJ.out, hkq.trans HK.out⟩
        case measure => simp [intOf]
      · have HJ := Lib.hid hJx3
        clear hJx3
        gi_wp2
        refine bodyPost_ret (results_none rfl _ _ _) rfl ?_
        exact ⟨⟨_, rfl⟩, .inr ⟨_, ⟨k + 1, by omega, rfl⟩, HJ.out⟩⟩
    · obtain rfl : k = vs.length := by omega
      rw [show (vs.length : Int) - 1 - (vs.length : Int) = -1 from by omega]
      gi_wp2
      go_end0
      exact ⟨⟨_, rfl⟩, .inl ⟨_, rfl, hJs⟩⟩

theorem back_in (n : Nat) (A : Option Addr) (len c : Nat) (w : World) :
    CallsIn Fence.wide n Try.prog 59 #[.slice A len c] w fun e w' => e = .returned (.func (.func 63) #[] #[.pointer (some ⟨w.heap.size, 0, none⟩)]) ∧ w' = w.alloc (.cells #[.slice A len c] 26) := by
  refine callsIn_of_wp Try.func59 rfl trivial ?_ rfl
  simp only [Try.ntmps59, List.size_toArray, List.length_cons, List.length_nil, Nat.reduceAdd, Nat.reduceSub, Array.replicate_succ, Array.replicate_zero, List.push_toArray, List.append_toArray, List.nil_append, List.cons_append]
  gi_wp2
  go_ret
  exact ⟨rfl, rfl⟩

/-- slices.Backward(l)'s value: from behind, all; or a part. -/
theorem back_stops (m Bs c : Nat) (A : Option Addr) {P : TV → Prop} (vs : List { x : TV // P x }) (Q : Nat → Prop) (hQs : Q Bs) (hl : vs.length ≤ maxLen) (w : World) (hBs : w.cell? ⟨Bs, 0, none⟩ = some (.slice A vs.length c)) (hBl : Bs < w.heap.size)
    (hQ : ∀ k, Q k → k < w.heap.size) (hs : ∀ i v, vs[i]? = some v → Slot w Q A i v.1.val) :
    SeqStopsK Fence.wide (m + 1) Try.prog 63 #[.pointer (some ⟨Bs, 0, none⟩)] bkEnc (KQ Q) (fun ys => ys = bk vs vs.length) (fun pre => ∃ k, k ≤ vs.length ∧ pre = bk vs k) vs.length w := fun l J Jx W hW _ _ hY h0 =>
  back1_in m l Bs c A vs Q hQs hl J Jx hY W ((hW.cell (p := ⟨Bs, 0, none⟩) hBl).trans hBs) (Nat.lt_of_lt_of_le hBl hW.size) (fun i v hv => ((hs i v hv).keep fun p hp => hW.cell (hQ _ hp)).mono fun b hb => ⟨hb, Nat.lt_of_lt_of_le (hQ b hb) hW.size⟩) h0
end Go.Proofs.Ytnedjmjcbmoknaa.K
