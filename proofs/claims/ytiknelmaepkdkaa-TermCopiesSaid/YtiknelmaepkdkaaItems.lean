/- term.Items, by its contract: which items a list has. -/
import Derived.Test.YtiknelmaepkdkaaTmCopy
import Derived.Deep.LoopGhost
namespace Go.Proofs.Ytiknelmaepkdkaa.K
open Go.RowKit
set_option linter.unusedVariables false
set_option linter.unusedSimpArgs false

/-- A proper list's items; none of another term. -/
def itemsN : Nat → Tm → Option (List Tm)
  | 0, _ => none
  | f + 1, t => if t.k = 9 ∧ t.l.length = 2 then (itemsN f (t.l.getD 1 t)).map (t.l.getD 0 t :: ·) else if t.k = 8 then some [] else none
def items (t : Tm) : Option (List Tm) := itemsN (nodes t) t
theorem itemsN_more : ∀ (f g : Nat) (t : Tm), nodes t ≤ f → nodes t ≤ g → itemsN f t = itemsN g t
  | 0, _, t, h, _ => by have := nodes_pos t; omega
  | _ + 1, 0, t, _, h => by have := nodes_pos t; omega
  | f + 1, g + 1, t, hf, hg => by
    unfold itemsN
    by_cases h : t.k = 9 ∧ t.l.length = 2
    · rw [if_pos h, if_pos h]
      obtain ⟨a, b, e⟩ : ∃ a b, t.l = [a, b] := by
        obtain ⟨_, h2⟩ := h
        match h3 : t.l, h2 with
        | [a, b], _ => exact ⟨a, b, rfl⟩
      have hn := nodes_eq t
      rw [e, nodesL_cons, nodesL_cons, nodesL_nil] at hn
      rw [e]
      show (itemsN f b).map _ = (itemsN g b).map _
      rw [itemsN_more f g b (by omega) (by omega)]
    · rw [if_neg h, if_neg h]
theorem items_cons {n : Int} {s : ByteArray} (a b : Tm) : items (.mk 9 n s [a, b]) = (items b).map (a :: ·) := by
  unfold items
  rw [nodes_mk, nodesL_cons, nodesL_cons, nodesL_nil]
  show itemsN (nodes a + (nodes b + 0) + 1) _ = _
  unfold itemsN
  rw [if_pos ⟨rfl, rfl⟩]
  show (itemsN _ b).map (a :: ·) = _
  rw [itemsN_more _ (nodes b) b (by omega) (Nat.le_refl _)]
  cases nodes b <;> rfl
theorem items_end {k n : Int} {s : ByteArray} {l : List Tm} (h : ¬ (k = 9 ∧ l.length = 2)) : items (.mk k n s l) = if k = 8 then some [] else none := by
  unfold items
  rw [nodes_mk]
  unfold itemsN
  exact if_neg h
theorem ownsRow_none {w : World} {base : Nat} {e : TypeId} {size n m c : Nat} {A : Option Addr} {xs : List Value} (h : w.ownsRow base e size (.slice A m c) n xs) : A = none → c = 0 := by
  rintro rfl
  rcases h.2 with ⟨h1, _⟩ | ⟨g, cap, cur, h1, _⟩
  · injection h1 with _ _ h3
  · injection h1 with h1; cases h1
/-- In the middle: these are the items so far, x is to be looked at. -/
structure ItMid (w : World) (t x : Tm) (o : List Tm) (A : Option Addr) (c : Nat) (v : Value) (wr : World) : Prop where
  box : Blk wr w.heap.size 24 #[.int .i64 x.k, .int .i64 x.n, .string x.s, .slice A x.l.length c]
  kids : TsAt wr (· < w.heap.size) A x.l
  len : x.l.length ≤ maxLen
  row : ∃ vs, TsVs wr (· < w.heap.size) o vs ∧ wr.ownsRow (w.heap.size + 1) 24 4 v o.length (flat vs)
  sum : items t = (items x).map (o ++ ·)
  cnt : o.length + nodes x ≤ nodes t
  bel : Below w.heap.size w wr
def ItRel (w : World) (t : Tm) (gk : Nat) (v : Value) (wr : World) : Prop := ∃ x o A c, ItMid w t x o A c v wr ∧ nodes x ≤ gk
theorem it_next {w wr w3 : World} {t a b : Tm} {n : Int} {s : ByteArray} {o : List Tm} {A A4 Aa : Option Addr} {c c4 ca : Nat} {v v3 : Value} {vs : List Value} {ob : Obj} (h : ItMid w t (.mk 9 n s [a, b]) o A c v wr) (hvs : TsVs wr (· < w.heap.size) o vs) (hrow : wr.ownsRow (w.heap.size + 1) 24 4 v o.length (flat vs))
    (ha : TAt wr (· < w.heap.size) a (tv a Aa ca)) (hb : TAt wr (· < w.heap.size) b (tv b A4 c4))
    (hown : w3.ownsRow (w.heap.size + 1) 24 4 v3 (o.length + 1) (flat vs ++ [.int .i64 a.k, .int .i64 a.n, .string a.s, .slice Aa a.l.length ca])) (hg : (wr.alloc ob).grownBy w3 v.ownBlock) :
    (Blk w3 w.heap.size 24 #[.int .i64 9, .int .i64 n, .string s, .slice A 2 c] ∧ Below w.heap.size wr w3) ∧ ItMid w t b (o ++ [a]) A4 c4 v3 (put4 w3 w.heap.size (.int .i64 b.k) (.int .i64 b.n) (.string b.s) (.slice A4 b.l.length c4)) := by
  have hz := h.bel.size
  have hbl := h.box.lt
  have hne : ∀ r, v.ownBlock = some r → w.heap.size + 1 ≤ r := fun r hr => (hrow.lt r hr).1
  have hbox : Blk w3 w.heap.size 24 #[.int .i64 9, .int .i64 n, .string s, .slice A 2 c] :=
    (hg.block w.heap.size (by rw [World.size_alloc]; omega) (fun e => by have := hne _ e.symm; omega)).trans (h.box.alloc ob)
  have hbw : Below w.heap.size wr w3 := ((Below.refl _ wr).alloc hz ob).grown hg (by rw [World.size_alloc]; omega) (fun r hr => by have := hne r hr; omega)
  have hbe := hbw.size
  have hb4 : Below w.heap.size wr (put4 w3 w.heap.size (.int .i64 b.k) (.int .i64 b.n) (.string b.s) (.slice A4 b.l.length c4)) := put4_below hbw (Nat.le_refl _) _ _ _ _
  obtain ⟨A', c', e, okb, hlb⟩ := hb.inv
  have hee : A' = A4 ∧ c' = c4 := by
    unfold tv at e
    injection e with e
    simp only [Array.mk.injEq, List.cons.injEq, Value.slice.injEq, true_and, and_true] at e
    exact ⟨e.1.symm, e.2.symm⟩
  obtain ⟨rfl, rfl⟩ := hee
  have hh := h.cnt
  rw [nodes_mk, nodesL_cons, nodesL_cons, nodesL_nil] at hh
  have hpa := nodes_pos a
  refine ⟨⟨hbox, hbw⟩, put4_blk hbox _ _ _ _, hlb.under hb4 (fun _ h => h), Nat.le_trans okb.hl okb.hc, ⟨vs ++ [tv a Aa ca], (hvs.append (TsVs.one ha)).keep fun p hp => hb4.cell hp, ?_⟩, ?_, ?_, h.bel.trans hb4⟩
  · rw [flat_snoc, List.length_append]
    refine ownsRow_keep (F := fun k => k = w.heap.size) hown (put4_keep (F := fun k => k = w.heap.size) (Keep.refl _ _) (.inl rfl) _ _ _ _) (fun r hr e => ?_)
    have := (hown.lt r hr).1
    omega
  · rw [h.sum, items_cons]
    cases items b <;> simp
  · rw [List.length_append]; simp; omega
/-- What Items answers: a slice of these terms, which are parts of the term. -/
def ItAns (w : World) (t : Tm) (e : Ending) (w' : World) : Prop :=
  ∃ v b, e = .returned (.tuple #[v, .bool b]) ∧ b = (items t).isSome ∧ SlAt w' (· < w'.heap.size) v ((items t).getD []) ∧ Below w.heap.size w w'
set_option maxRecDepth 100000 in
set_option maxHeartbeats 4000000 in
theorem items_any (t : Tm) (v : Value) (w : World) (h : TA w t v) (hn : nodes t ≤ 1048576) : Calls Try.prog 16 #[v] w (ItAns w t) := by
  obtain ⟨k0, n0, s, l, A, c, rfl, rfl, ok, hl⟩ := h.open_
  obtain ⟨i0, hi, hi0, hi1, hi2⟩ := info_parts infoT
  have HS := Lib.hid (show ItMid w (.mk k0 n0 s l) (.mk k0 n0 s l) [] A c (.slice none 0 0) (w.alloc (.cells #[.int .i64 k0, .int .i64 n0, .string s, .slice A l.length c] 24)) from
    ⟨Blk.new _ _ _, hl.under ((Below.refl w.heap.size w).alloc (Nat.le_refl _) _) (fun _ h => h), Nat.le_trans ok.hl ok.hc, ⟨[], .nil, World.ownsRow_nil _ _ _ _⟩, by cases items (.mk k0 n0 s l) <;> simp, by simp, (Below.refl _ _).alloc (Nat.le_refl _) _⟩)
  have HN := Lib.hid hn
  have hk1 : nodes (.mk k0 n0 s l) ≤ 1048576 := hn
  obtain ⟨t, ht⟩ : ∃ t, Tm.mk k0 n0 s l = t := ⟨_, rfl⟩
  rw [ht] at HN hk1 ⊢
  have HT := Lib.hid ht
  clear h hl ok hn ht
  go_enter Try.func16, Try.ntmps16
  go_wp2_with fail
  go_loopg [4] 1048576 (fun gk v wr => ItRel w t gk v wr)
  case atStart => exact ⟨_, _, _, _, HT.out ▸ HS.out, hk1⟩
  case round =>
    obtain ⟨x, o, A2, c2, hm, hgk⟩ := hrel
    have HM := Lib.hid hm
    obtain ⟨p0, p1, p2, p3, q0, q1, q2, q3⟩ := hm.box.four
    obtain ⟨vs, hvs, hrow⟩ := hm.row
    obtain ⟨A3, c3, rfl, hc3, hm3⟩ := ownsRow_form hrow
    have hcnt := hm.cnt
    obtain ⟨kx, nx, sx, lx⟩ := x
    simp only [Tm.k_mk, Tm.n_mk, Tm.s_mk, Tm.l_mk] at p0 p1 p2 p3
    have hlen := hm.len
    simp only [Tm.l_mk] at hlen
    unfold maxLen at hlen
    by_cases hc : kx = 9 ∧ lx.length = 2
    · obtain ⟨rfl, h2⟩ := hc
      obtain ⟨a, b, rfl⟩ : ∃ a b, lx = [a, b] := by
        match lx, h2 with
        | [a, b], _ => exact ⟨a, b, rfl⟩
      simp only [List.length_cons, List.length_nil] at p3
      obtain ⟨b1, o1, A1, c1, rfl, hb1, d0, d1, d2, d3, oka, hta⟩ := hm.kids.at_ (i := 0) (u := a) rfl
      obtain ⟨b2, o2, A4, c4, e2, hb2, e0, e1, e2', e3, okb, htb⟩ := hm.kids.at_ (i := 1) (u := b) rfl
      injection e2 with e2
      injection e2 with e2 e2b
      subst e2 e2b
      have HTa := Lib.hid (TAt.of oka hta)
      have HTb := Lib.hid (TAt.of okb htb)
      have hbl := hm.box.lt
      have ho1 : o.length ≤ 1048576 := by omega
      have HVS := Lib.hid hvs
      have HROW := Lib.hid hrow
      have hcc : nodes (.mk 9 nx sx [a, b]) = nodes a + nodes b + 1 := by rw [nodes_mk, nodesL_cons, nodesL_cons, nodesL_nil]; omega
      have hbn := nodes_pos b
      simp only [Nat.zero_mul, Nat.add_zero, Nat.one_mul] at d0 d1 d2 d3 e0 e1 e2' e3
      have h63 : o.length + 1 ≤ maxLen := by unfold maxLen; omega
      have b3 : w.heap.size + 1 ≤ (wr.alloc (.cells #[.int .i64 a.k, .int .i64 a.n, .string a.s, .slice A1 a.l.length c1] 24)).heap.size := by simp; omega
      clear oka okb hta htb hvs hrow hm
      go_wp2_with (first
        | (at_builtin; refine wpList_append_own_at _ rfl _ _ 22 rfl (w.heap.size + 1) 24 i0 _ 4 56 Try.underlying22 hi hi0 hi1 hi2 rfl (by decide) (.slice A3 o.length c3) o.length _ rfl (HROW.out.alloc _) ⟨wr.heap.size, 0, none⟩ 1 1 [.int .i64 a.k, .int .i64 a.n, .string a.s, .slice A1 a.l.length c1] rfl rfl (cells4_new _ _ _ _ _ _) (one4 _ _ _ _ _ _) h63 (by omega) b3 ?_
           intro v3 w3 hR3 hg3 _ hat3
           obtain ⟨A5, c5, rfl, _, _⟩ := ownsRow_form hR3
           obtain ⟨⟨hbx, hbw⟩, hnx⟩ := it_next HM.out HVS.out HROW.out HTa.out HTb.out hR3 hg3
           obtain ⟨y0, y1, y2, y3, z0, z1, z2, z3⟩ := hbx.four
           have x0 := (hbw.cell (p := ⟨b1, o1 + 4, none⟩) hb1).trans e0
           have x1 := (hbw.cell (p := ⟨b1, o1 + 4 + 1, none⟩) hb1).trans e1
           have x2 := (hbw.cell (p := ⟨b1, o1 + 4 + 2, none⟩) hb1).trans e2'
           have x3 := (hbw.cell (p := ⟨b1, o1 + 4 + 3, none⟩) hb1).trans e3
           have HNX := Lib.hid hnx
           clear hR3 hg3 hat3 hbx hbw hnx)
        | fail)
      go_roundg (nodes b)
      case rel =>
        refine ⟨b, o ++ [a], A4, c4, ?_, Nat.le_refl _⟩
        exact HNX.out
      case measure => omega
    · have HE := Lib.hid (items_end (n := nx) (s := sx) hc)
      have hvs' : TsVs wr (· < wr.heap.size) o vs := hvs.mono fun b hb => Nat.lt_of_lt_of_le hb hm.bel.size
      have HSL := Lib.hid (show SlAt wr (· < wr.heap.size) (.slice A3 o.length c3) o from ⟨A3, c3, rfl, hc3, hm3, ownsRow_none hrow, hvs'.slot hrow rfl (fun r hr => (hrow.lt r hr).2)⟩)
      have HB := Lib.hid hm.bel
      have HSU := Lib.hid hm.sum
      clear hvs hvs' hrow hm HM
      by_cases h9 : kx = 9
      · have q9 : ((lx.length : Int) == 2) = false := beq_eq_false_iff_ne.2 (by omega)
        subst h9
        go_wp2_with fail
        go_ret2
        refine ⟨_, _, rfl, ?_, ?_, HB.out⟩
        · rw [HSU.out, HE.out]; rfl
        · rw [HSU.out, HE.out]; exact SlAt.nil _ _
      · have q9 : (kx == 9) = false := beq_eq_false_iff_ne.2 h9
        by_cases h8 : kx = 8
        · subst h8
          go_wp2_with fail
          go_ret2
          refine ⟨_, _, rfl, ?_, ?_, HB.out⟩
          · rw [HSU.out, HE.out]; rfl
          · rw [HSU.out, HE.out]; simpa using HSL.out
        · have q8 : (kx == 8) = false := beq_eq_false_iff_ne.2 h8
          go_wp2_with fail
          go_ret2
          refine ⟨_, _, rfl, ?_, ?_, HB.out⟩
          · rw [HSU.out, HE.out, if_neg h8]; rfl
          · rw [HSU.out, HE.out, if_neg h8]; exact SlAt.nil _ _
end Go.Proofs.Ytiknelmaepkdkaa.K
