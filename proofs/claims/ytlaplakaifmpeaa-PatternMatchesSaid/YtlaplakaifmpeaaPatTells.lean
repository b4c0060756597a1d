/- (*pattern.binds).tells, by its contract: bindings in a row of our own. -/
import Derived.Test.YtlaplakaifmpeaaPatMatch
namespace Go.Proofs.Ytlaplakaifmpeaa.Pt
open Go.RowKit K Go.Shelf
set_option linter.unusedVariables false
set_option linter.unusedSimpArgs false

def LV : Nat := 1048577
/-- Bindings and the cells that they lie in, their terms in blocks G, in rows that may be written. -/
inductive BVs (w : World) (G : Nat → Prop) : List Bnd → List Value → Prop
  | nil : BVs w G [] []
  | cons {p : Bnd} {k m : Int} {s : ByteArray} {A : Option Addr} {len c : Nat} {l : List Bnd} {xs : List Value} : TAt w G p.2 (.agg #[.int .i64 k, .int .i64 m, .string s, .slice A len c]) → Wk w G LV (.agg #[.int .i64 k, .int .i64 m, .string s, .slice A len c]) → BVs w G l xs →
      BVs w G (p :: l) (.int .i64 p.1 :: .int .i64 k :: .int .i64 m :: .string s :: .slice A len c :: xs)
section
variable {w w' : World} {F G G' : Nat → Prop} {l l' : List Bnd} {xs xs' : List Value} {B : Nat} {v : Value}
theorem BVs.len (h : BVs w G l xs) : xs.length = l.length * 5 := by
  induction h with
  | nil => rfl
  | cons _ _ _ ih => simp [ih]; omega
theorem BVs.one (h : BVs w G l xs) : ∀ u ∈ xs, u.oneCell' = true := by
  induction h with
  | nil => simp
  | cons _ _ _ ih =>
    intro u hu
    simp only [List.mem_cons] at hu
    rcases hu with rfl | rfl | rfl | rfl | rfl | hu
    · rfl
    · rfl
    · rfl
    · rfl
    · rfl
    · exact ih u hu
theorem BVs.mono (h : BVs w G l xs) (hG : ∀ b, G b → G' b) : BVs w G' l xs := by
  induction h with
  | nil => exact .nil
  | cons h1 h2 _ ih => exact .cons (h1.mono hG) (h2.mono hG) ih
theorem BVs.keep (h : BVs w G l xs) (hk : Keep F w w') (hG : ∀ b, G b → b < w.heap.size ∧ ¬ F b) : BVs w' G l xs := by
  induction h with
  | nil => exact .nil
  | cons h1 h2 _ ih => exact .cons (h1.keepF hk (fun b hb => (hG b hb).1) (fun b hb => (hG b hb).2)) (h2.keep hk (fun b hb => (hG b hb).2)) ih
theorem BVs.append (h : BVs w G l xs) (h' : BVs w G l' xs') : BVs w G (l ++ l') (xs ++ xs') := by
  induction h with
  | nil => exact h'
  | cons h1 h2 _ ih => exact .cons h1 h2 ih
theorem BVs.at_ (h : BVs w G l xs) {i : Nat} {p : Bnd} (hp : l[i]? = some p) : ∃ (k m : Int) (s : ByteArray) (A : Option Addr) (len c : Nat), xs[i * 5]? = some (.int .i64 p.1) ∧ xs[i * 5 + 1]? = some (.int .i64 k) ∧ xs[i * 5 + 2]? = some (.int .i64 m) ∧ xs[i * 5 + 3]? = some (.string s) ∧ xs[i * 5 + 4]? = some (.slice A len c) ∧
    TAt w G p.2 (.agg #[.int .i64 k, .int .i64 m, .string s, .slice A len c]) ∧ Wk w G LV (.agg #[.int .i64 k, .int .i64 m, .string s, .slice A len c]) := by
  induction h generalizing i with
  | nil => simp at hp
  | cons h1 h2 _ ih =>
    cases i with
    | zero =>
      simp at hp
      subst hp
      exact ⟨_, _, _, _, _, _, rfl, rfl, rfl, rfl, rfl, h1, h2⟩
    | succ i =>
      rw [show (i + 1) * 5 = i * 5 + 1 + 1 + 1 + 1 + 1 by omega]
      exact ih hp
/-- A row of our own of bindings, from block B on. -/
def BRow (w : World) (B : Nat) (v : Value) (l : List Bnd) : Prop :=
  ∃ G xs, BVs w G l xs ∧ (∀ b, G b → b < w.heap.size ∧ B ≤ b ∧ v.ownBlock ≠ some b) ∧ w.ownsRow B 35 5 v l.length xs
theorem BRow.none_ (w : World) (B : Nat) : BRow w B (.slice none 0 0) [] := ⟨fun _ => False, [], .nil, fun _ h => h.elim, World.ownsRow_nil _ _ _ _⟩
theorem BRow.form (h : BRow w B v l) : ∃ A c, v = .slice A l.length c ∧ l.length ≤ c ∧ c ≤ maxLen := by
  obtain ⟨G, xs, _, _, hR⟩ := h
  exact ownsRow_form hR
theorem BRow.keep (h : BRow w B v l) (hk : Keep F w w') (hF : ∀ b, B ≤ b → b < w.heap.size → ¬ F b) : BRow w' B v l := by
  obtain ⟨G, xs, h1, h2, h3⟩ := h
  exact ⟨G, xs, h1.keep hk (fun b hb => ⟨(h2 b hb).1, hF b (h2 b hb).2.1 (h2 b hb).1⟩), fun b hb => ⟨Nat.lt_of_lt_of_le (h2 b hb).1 hk.size, (h2 b hb).2⟩, ownsRow_keep h3 hk (fun r hr => hF r (h3.lt r hr).1 (h3.lt r hr).2)⟩
theorem BRow.later (h : BRow w B v l) (hb : Below w.heap.size w w') : BRow w' B v l := h.keep (F := fun _ => False) (Keep.new hb) (fun _ _ _ h => h)
/-- As a slice of bindings that reads. -/
theorem BRow.reads {A : Option Addr} {n c : Nat} (h : BRow w B (.slice A n c) l) : n = l.length ∧ BsAt w (fun b => B ≤ b ∧ b < w.heap.size) A l := by
  obtain ⟨G, xs, h1, h2, h3⟩ := h
  obtain ⟨A', c', e, _, _⟩ := ownsRow_form h3
  injection e with e1 e2 e3
  subst e1 e2 e3
  refine ⟨rfl, fun i p hp => ?_⟩
  have hi := (List.getElem?_eq_some_iff.1 hp).1
  obtain ⟨k, m, s, A1, len, c1, x0, x1, x2, x3, x4, ht, _⟩ := h1.at_ hp
  obtain ⟨g, cap, he, hg1, hg2⟩ := h3.form (by omega)
  have hA : A = some ⟨g, 0, none⟩ := by injection he
  subst hA
  have hc := h3.cells (g := g) rfl
  have q0 := hc _ _ x0
  have q1 := hc _ _ x1
  have q2 := hc _ _ x2
  have q3 := hc _ _ x3
  have q4 := hc _ _ x4
  rw [add_plain'] at q0 q1 q2 q3 q4
  exact ⟨_, ⟨g, 0, _, _, _, _, rfl, ⟨(h3.lt g rfl).1, hg2⟩, rfl, q0, by simpa [Nat.add_assoc] using q1, by simpa [Nat.add_assoc] using q2, by simpa [Nat.add_assoc] using q3, by simpa [Nat.add_assoc] using q4⟩, ht.mono (fun b hb => ⟨(h2 b hb).2.1, (h2 b hb).1⟩)⟩
theorem BRow.snoc {G H : Nat → Prop} {w3 : World} {v' : Value} {o : Obj} {p : Bnd} {k m : Int} {s : ByteArray} {A : Option Addr} {len c : Nat} (h1 : BVs w G l xs) (h2 : ∀ b, G b → b < w.heap.size ∧ B ≤ b ∧ v.ownBlock ≠ some b) (ht : TAt w H p.2 (.agg #[.int .i64 k, .int .i64 m, .string s, .slice A len c])) (hw : Wk w H LV (.agg #[.int .i64 k, .int .i64 m, .string s, .slice A len c])) (hH : ∀ b, H b → b < w.heap.size ∧ B ≤ b ∧ v.ownBlock ≠ some b)
    (hg : (w.alloc o).grownBy w3 v.ownBlock) (hR : w3.ownsRow B 35 5 v' (l.length + 1) (xs ++ [.int .i64 p.1, .int .i64 k, .int .i64 m, .string s, .slice A len c])) (hat : v'.ownBlock = v.ownBlock ∨ v'.ownBlock = some (w.alloc o).heap.size) : BRow w3 B v' (l ++ [p]) := by
  have hsz : w.heap.size + 1 ≤ w3.heap.size := by have := hg.size; simpa using this
  have hk : Keep (fun b => v.ownBlock = some b) w w3 := ((Keep.refl _ w).alloc o).grown hg (fun b hb => .inl hb)
  have e1 : BVs w (fun b => G b ∨ H b) l xs := h1.mono (fun b h => .inl h)
  have e2 : BVs w (fun b => G b ∨ H b) [p] [.int .i64 p.1, .int .i64 k, .int .i64 m, .string s, .slice A len c] := .cons (ht.mono (fun b h => .inr h)) (hw.mono (fun b h => .inr h)) .nil
  have hGH : ∀ b, (G b ∨ H b) → b < w.heap.size ∧ B ≤ b ∧ v.ownBlock ≠ some b := fun b hb => hb.elim (h2 b) (hH b)
  refine ⟨fun b => G b ∨ H b, _, (e1.append e2).keep hk (fun b hb => ⟨(hGH b hb).1, (hGH b hb).2.2⟩), fun b hb => ?_, by simpa using hR⟩
  have h0 := hGH b hb
  refine ⟨by omega, h0.2.1, ?_⟩
  rcases hat with h | h
  · rw [h]; exact h0.2.2
  · rw [h]; intro e; injection e with e; simp at e; omega
end
def bl (b : Bf) (j : Nat) : List Bnd := (List.range j).filterMap fun n => (b n).map fun t => ((n : Int), t)
theorem bl_succ (b : Bf) (j : Nat) : bl b (j + 1) = bl b j ++ (match b j with
  | some t => [((j : Int), t)]
  | none => []) := by
  unfold bl
  rw [List.range_succ, List.filterMap_append]
  congr 1
  cases h : b j with
  | none => simp [h]
  | some t => simp [h]
theorem bl_len (b : Bf) (j : Nat) : (bl b j).length ≤ j := by
  unfold bl
  exact Nat.le_trans (List.length_filterMap_le _ _) (by simp)
theorem infoB : (Try.prog.info? 35).map (fun i => (i.zero, i.size, i.bytes)) = some (some (.agg #[.int .i64 0, .int .i64 0, .int .i64 0, .string .empty, .slice none 0 0]), 5, 64) := by kernel_rfl
set_option maxRecDepth 100000 in
set_option maxHeartbeats 8000000 in
theorem tells_any (W : World) (g N : Nat) (b : Bf) (hb : BdI W g N b) : Calls Try.prog 43 #[.pointer (some ⟨g, 0, none⟩)] W fun e w' => ∃ A c, e = .returned (.slice A (bl b 100).length c) ∧ BRow w' W.heap.size (.slice A (bl b 100).length c) (bl b 100) ∧ Below W.heap.size W w' := by
  have HBD := Lib.hid hb
  obtain ⟨i0, hi, hz0, hz1, hz2⟩ := info_parts infoB
  have HR0 := Lib.hid (BRow.none_ W W.heap.size)
  have hgl := hb.lt
  have hNg := hb.1
  clear hb
  go_enter Try.func43, Try.ntmps43
  go_wp2_with fail
  go_loopw [3, 5] (fun x y wr => ∃ j : Nat, j ≤ 100 ∧ y = .int .i64 (j : Int) ∧ BRow wr W.heap.size x (bl b j) ∧ Below W.heap.size W wr) (fun _ y _ => 100 - (intOf y).toNat)
  case atStart => exact ⟨0, by omega, rfl, HR0.out, Below.refl _ _⟩
  case round =>
    obtain ⟨j, hj, rfl, hrow, hbl⟩ := hrel
    obtain ⟨A3, c3, rfl, _, _⟩ := hrow.form
    have HROW := Lib.hid hrow; have HBL := Lib.hid hbl
    have HBD2 := Lib.hid (HBD.out.later hbl)
    have hvl := bl_len b j
    obtain ⟨m, hm⟩ : ∃ m, (bl b j).length = m := ⟨_, rfl⟩
    have HML := Lib.hid hm
    rw [hm] at hvl HROW ⊢
    have hbz := hbl.size
    clear hrow hbl
    by_cases hlt : j < 100
    · have HHAS := Lib.hid (HBD2.out.has hlt)
      have hsu := bl_succ b j
      clear hm
      cases hbj : b j with
      | none =>
        rw [hbj] at HHAS hsu
        have HSU := Lib.hid hsu
        clear hsu hbj
        go_wp2_with (first | (go_at_call 53; refine HHAS.out.mono ?_; rintro e w' ⟨rfl, rfl⟩) | fail)
        go_roundw
        case rel => exact ⟨j + 1, by omega, by go_num, by have := HSU.out; simp only [List.append_nil] at this; rw [this]; exact HROW.out, HBL.out⟩
        case measure => simp [intOf]; omega
      | some t =>
        rw [hbj] at HHAS hsu
        have HSU := Lib.hid hsu
        obtain ⟨xk, xm, xs, xA, xl, xc, ⟨d0, d1, d2, d3⟩, _, hx, _⟩ := HBD2.out.2.2 j hlt
        obtain ⟨hxt, hxn⟩ := hx t hbj
        have HCP := Lib.hid (copyT_any t hxn _ wr (hxt.mono (fun q hq => by have := HBD2.out.lt; omega)))
        have HXN := Lib.hid hxn
        have hj0 : (0 : Int) ≤ (j : Int) := by omega
        have hj1 : (j : Int) < 100 := by omega
        clear hsu hbj hx hxt hxn
        go_wp2_with (first | (go_at_call 53; refine HHAS.out.mono ?_; rintro e w' ⟨rfl, rfl⟩) | fail)
        refine HCP.out.mono ?_
        rintro e w4 ⟨v4, rfl, hx4, hb4, hw4⟩
        obtain ⟨A4, c4, rfl, ok4, _⟩ := hx4.inv
        unfold tv at hx4 hw4 ⊢
        obtain ⟨G, xs, h1, h2, h3⟩ := HROW.out.later hb4
        rw [HML.out] at h3
        have hz4 := hb4.size
        obtain ⟨v5, w5, hrun, hR5, hg5, _, hat5⟩ := run_append_own_at (P := Try.prog) (w4.alloc (.cells #[.int .i64 (j : Int), .int .i64 t.k, .int .i64 t.n, .string t.s, .slice A4 t.l.length c4] 35)) W.heap.size 25 25 35 i0 _ 5 64 Try.underlying25 hi hz0 hz1 hz2 rfl (by decide) (.slice A3 m c3) m _ (h3.alloc _)
          ⟨w4.heap.size, 0, none⟩ 1 1 [.int .i64 (j : Int), .int .i64 t.k, .int .i64 t.n, .string t.s, .slice A4 t.l.length c4] rfl (fun q u hq => by
          rw [add_plain', (Blk.new w4 35 #[.int .i64 (j : Int), .int .i64 t.k, .int .i64 t.n, .string t.s, .slice A4 t.l.length c4]).cell]
          simpa using hq) (by simp [Value.oneCell']) (by unfold maxLen; omega) (by omega) (by simp; omega)
        obtain ⟨g5, c5, rfl, _, _⟩ := hR5.form (by omega)
        have h3r := HROW.out
        have hS := BRow.snoc (p := ((j : Int), t)) (H := Fr wr w4) h1 h2 hx4 (hw4.up (by have := HXN.out; unfold LV; omega)) (fun b hb => ⟨hb.2, Nat.le_trans hbz hb.1, fun e => by
          obtain ⟨_, _, _, _, h9⟩ := HROW.out
          have := (h9.lt b e).2
          have := hb.1
          omega⟩) hg5 (by rw [HML.out]; exact hR5) hat5
        have HS := Lib.hid (show BRow w5 W.heap.size (.slice (some ⟨g5, 0, none⟩) (m + 1) c5) (bl b (j + 1)) from by rw [HSU.out]; exact hS)
        have HB5 := Lib.hid (show Below W.heap.size W w5 from (ballocs (bnext HBL.out hb4) _).grown hg5 (by simp; omega) (fun r hr => (h3.lt r hr).1))
        have HRUN := Lib.hid hrun
        clear hx4 hb4 hw4 ok4 h1 h2 h3 hrun hR5 hg5 hat5 h3r hS
        go_wp2_with (first
          | (at_builtin; refine wpList_append_run (o := ⟨some 24, _, _, _, _, _⟩) (.tmp 13) (.tmp 23) 25 _ _ _ HRUN.out rfl rfl (by simp [Act.eval, Act.put]) (by simp [Act.eval, Act.put]) ?_)
          | fail)
        exact ⟨⟨j + 1, by omega, by go_num, HS.out, HB5.out⟩, by simp [intOf]; omega⟩
    · obtain rfl : j = 100 := by omega
      have HF := Lib.hid (show BRow wr W.heap.size (.slice A3 (bl b 100).length c3) (bl b 100) from by rw [HML.out]; exact HROW.out)
      go_wp2_with fail
      go_ret
      exact ⟨A3, c3, by rw [HML.out]; rfl, HF.out, HBL.out⟩
end Go.Proofs.Ytlaplakaifmpeaa.Pt
