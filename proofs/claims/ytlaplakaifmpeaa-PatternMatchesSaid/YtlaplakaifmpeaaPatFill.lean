/- (*pattern.binds).fill, by its contract. -/
import Derived.Test.YtlaplakaifmpeaaPatMore
namespace Go.Proofs.Ytlaplakaifmpeaa.Pt
open Go.RowKit K Go.Shelf
set_option linter.unusedVariables false
set_option linter.unusedSimpArgs false

mutual
/-- A pattern, filled. -/
noncomputable def fillP : Tm → Bf → Option Tm
  | .mk k n s l, b =>
    if k = 2 then (if s = uscore then none else match numS s with
      | some q => b q
      | none => some (.mk k n s l))
    else if k = 7 ∨ k = 9 then (fillL l b).map fun l' => .mk k n s l'
    else some (.mk k n s l)
noncomputable def fillL : List Tm → Bf → Option (List Tm)
  | [], _ => some []
  | p :: r, b => (fillP p b).bind fun t => (fillL r b).map fun r' => t :: r'
end
theorem fillL_nil (b : Bf) : fillL [] b = some [] := by rw [fillL]
theorem fillL_cons (p : Tm) (r : List Tm) (b : Bf) : fillL (p :: r) b = (fillP p b).bind fun t => (fillL r b).map fun r' => t :: r' := by rw [fillL]
theorem fillL_append (l l' : List Tm) (b : Bf) : fillL (l ++ l') b = (fillL l b).bind fun x => (fillL l' b).map fun y => x ++ y := by
  induction l with
  | nil => rw [fillL_nil]; cases h : fillL l' b <;> simp [h]
  | cons p r ih =>
    rw [List.cons_append, fillL_cons, fillL_cons, ih]
    cases fillP p b with
    | none => rfl
    | some t =>
      cases fillL r b with
      | none => rfl
      | some x => cases fillL l' b <;> rfl
theorem fillL_len {l l' : List Tm} {b : Bf} (h : fillL l b = some l') : l'.length = l.length := by
  induction l generalizing l' with
  | nil => rw [fillL_nil] at h; injection h with h; subst h; rfl
  | cons p r ih =>
    rw [fillL_cons] at h
    cases hp : fillP p b with
    | none => rw [hp] at h; cases h
    | some t =>
      cases hr : fillL r b with
      | none => rw [hp, hr] at h; cases h
      | some x => rw [hp, hr] at h; injection h with h; subst h; simp [ih hr]
theorem fillL_snoc {l : List Tm} {k : Nat} {u : Tm} {b : Bf} (h : l[k]? = some u) : fillL (l.take (k + 1)) b = (fillL (l.take k) b).bind fun x => (fillP u b).map fun t => x ++ [t] := by
  rw [take_snoc_of h, fillL_append, fillL_cons, fillL_nil]
  cases fillL (l.take k) b <;> cases fillP u b <;> rfl
theorem fillL_none {l : List Tm} {k : Nat} {u : Tm} {b : Bf} (h : l[k]? = some u) (hu : fillP u b = none) : fillL l b = none := by
  have : l = l.take (k + 1) ++ l.drop (k + 1) := (List.take_append_drop _ _).symm
  rw [this, fillL_append, fillL_snoc h, hu]
  cases fillL (l.take k) b <;> rfl
/-- What filling hands on. -/
def FillPost (W : World) (N : Nat) (o : Option Tm) (e : Ending) (w' : World) : Prop :=
  Below W.heap.size W w' ∧ ∃ (k m : Int) (s : ByteArray) (A : Option Addr) (len c : Nat), (o = none ∧ e = .returned (.tuple #[.agg #[.int .i64 k, .int .i64 m, .string s, .slice A len c], .bool false])) ∨ (∃ t, o = some t ∧ e = .returned (.tuple #[.agg #[.int .i64 k, .int .i64 m, .string s, .slice A len c], .bool true]) ∧ TAt w' (fun b => b < N ∨ Fr W w' b) t (.agg #[.int .i64 k, .int .i64 m, .string s, .slice A len c]))
def FillC (g N : Nat) (b : Bf) (p : Tm) : Prop := nodes p ≤ 1048576 → ∀ (vp : Value) (W : World), BdI W g N b → TAt W (· < N) p vp →
  Calls Try.prog 49 #[.pointer (some ⟨g, 0, none⟩), vp] W (FillPost W N (fillP p b))
/-- In the loop: i parts have been filled. -/
def FlI (W : World) (N : Nat) (b : Bf) (k n : Int) (s : ByteArray) (l : List Tm) (A : Option Addr) (c i : Nat) (wr : World) : Prop :=
  ∃ row ls, fillL (l.take i) b = some ls ∧ Blk wr W.heap.size 24 #[.int .i64 k, .int .i64 n, .string s, .slice A l.length c] ∧ Blk wr (W.heap.size + 1) 24 #[.int .i64 0, .int .i64 0, .string ⟨#[]⟩, .slice none 0 0] ∧
    Blk wr (W.heap.size + 1 + 1) 24 #[.int .i64 k, .int .i64 n, .string s, row] ∧ TRow wr (W.heap.size + 3) (fun b => b < N ∨ W.heap.size + 3 ≤ b) row ls ∧ Below W.heap.size W wr
theorem trow_keepQ {F Q : Nat → Prop} {w w' : World} {B : Nat} {v : Value} {l : List Tm} (h : TRow w B Q v l) (hk : Keep F w w') (hB : ∀ b, B ≤ b → ¬ F b) (hQ : ∀ b, Q b → ¬ F b) : TRow w' B Q v l := by
  obtain ⟨G, vs, hV, hG, hR⟩ := h
  exact ⟨G, vs, hV.keep fun p hp => hk.cell (hG _ hp).1 (hQ _ (hG _ hp).2.1), fun b hb => ⟨Nat.lt_of_lt_of_le (hG b hb).1 hk.size, (hG b hb).2⟩, ownsRow_keep hR hk (fun r hr => hB r (hR.lt r hr).1)⟩
/-- One more part has been filled. -/
theorem FlI.step {W wr w5 w6 w3 : World} {N i c c3 c5 : Nat} {b : Bf} {k n k6 m6 : Int} {s s6 : ByteArray} {l ls : List Tm} {A A3 A5 A6 : Option Addr} {l6 c6 : Nat} {u t : Tm} {G : Nat → Prop} {vs : List Value} {o o' : Obj} (hNW : N ≤ W.heap.size)
    (hfl : fillL (l.take i) b = some ls) (hu : l[i]? = some u) (ho : fillP u b = some t) (hg0 : Blk wr W.heap.size 24 #[.int .i64 k, .int .i64 n, .string s, .slice A l.length c]) (hg1 : Blk wr (W.heap.size + 1) 24 #[.int .i64 0, .int .i64 0, .string ⟨#[]⟩, .slice none 0 0])
    (hbl : Below W.heap.size W wr) (hb5 : Below wr.heap.size wr w5) (hb7 : Below wr.heap.size wr (w6.alloc o)) (hb67 : Below w6.heap.size w6 (w6.alloc o)) (hV : TsVs wr G ls vs) (hG : ∀ b, G b → b < wr.heap.size ∧ (b < N ∨ W.heap.size + 3 ≤ b) ∧ (Value.slice A3 ls.length c3).ownBlock ≠ some b) (hRw : wr.ownsRow (W.heap.size + 3) 24 4 (.slice A3 ls.length c3) ls.length (flat vs))
    (ht : TAt w6 (fun b => b < N ∨ Fr w5 w6 b) t (.agg #[.int .i64 k6, .int .i64 m6, .string s6, .slice A6 l6 c6])) (hg2 : Blk w3 (W.heap.size + 1 + 1) 24 #[.int .i64 k, .int .i64 n, .string s, .slice A3 ls.length c3])
    (hz2 : W.heap.size + 1 + 1 < wr.heap.size) (h6 : wr.heap.size ≤ w6.heap.size)
    (hR3 : w3.ownsRow (W.heap.size + 3) 24 4 (.slice A5 (ls.length + 1) c5) (ls.length + 1) (flat vs ++ [.int .i64 k6, .int .i64 m6, .string s6, .slice A6 l6 c6])) (hg3 : ((w6.alloc o).alloc o').grownBy w3 (Value.slice A3 ls.length c3).ownBlock)
    (hat3 : (Value.slice A5 (ls.length + 1) c5).ownBlock = (Value.slice A3 ls.length c3).ownBlock ∨ (Value.slice A5 (ls.length + 1) c5).ownBlock = some ((w6.alloc o).alloc o').heap.size) :
    FlI W N b k n s l A c (i + 1) (w3.setCell ⟨W.heap.size + 1 + 1, 3, none⟩ (.slice A5 (ls.length + 1) c5)) := by
  have h7 := hb7.size
  have h67 := hb67.size
  have h5 := hb5.size
  have hT := TRow.snoc (w := w6.alloc o) (B := W.heap.size + 3) (Q := fun b => b < N ∨ W.heap.size + 3 ≤ b) (hV.keep fun p hp => hb7.cell (hG _ hp).1) (fun b hb => ⟨Nat.lt_of_lt_of_le (hG b hb).1 h7, (hG b hb).2⟩) (ht.keep (w' := w6.alloc o) fun p hp => hb67.cell (by rcases hp with hp | hp; omega; exact hp.2)) (fun b hb => ⟨by rcases hb with hb | hb; omega; exact Nat.lt_of_lt_of_le hb.2 h67, by rcases hb with hb | hb; exact .inl hb; exact .inr (by have := hb.1; omega), fun e => by
    have := hRw.lt b e
    rcases hb with hb | hb
    · omega
    · have := hb.1; omega⟩) hg3 hR3 hat3
  have hk : Keep (fun x => x = W.heap.size + 1 + 1) w3 (w3.setCell ⟨W.heap.size + 1 + 1, 3, none⟩ (.slice A5 (ls.length + 1) c5)) := (Keep.refl (fun x => x = W.heap.size + 1 + 1) w3).setCell (p := ⟨W.heap.size + 1 + 1, 3, none⟩) (.inl rfl) _
  have hrow3 : ∀ r, (Value.slice A3 ls.length c3).ownBlock = some r → W.heap.size + 3 ≤ r := fun r hr => (hRw.lt r hr).1
  refine ⟨_, ls ++ [t], by rw [fillL_snoc hu, hfl, ho]; rfl, ?_, ?_, ?_, trow_keepQ hT hk (fun b h e => by omega) (fun b h e => by rcases h with h | h <;> omega), ?_⟩
  · exact (((hg0.below hb7 hg0.lt).alloc o').grown hg3 (fun e => by have := hrow3 _ e.symm; omega)).far (by show W.heap.size ≠ W.heap.size + 1 + 1; omega) _
  · exact (((hg1.below hb7 hg1.lt).alloc o').grown hg3 (fun e => by have := hrow3 _ e.symm; omega)).far (by show W.heap.size + 1 ≠ W.heap.size + 1 + 1; omega) _
  · have := hg2.set_ 3 (.slice A5 (ls.length + 1) c5)
    simpa using this
  · have h1 : Below W.heap.size W ((w6.alloc o).alloc o') := ballocs (hbl.trans (hb7.mono hbl.size)) o'
    have h2 := (Keep.refl (fun x => W.heap.size ≤ x) ((w6.alloc o).alloc o')).grown hg3 (fun k h => .inl (by have := hrow3 _ h; omega))
    exact (Keep.below (F := fun x => W.heap.size ≤ x) h1 h2 (by have := h1.size; omega) (fun i h1 h2 => by omega)).setCell (p := ⟨W.heap.size + 1 + 1, 3, none⟩) (by show W.heap.size ≤ W.heap.size + 1 + 1; omega) _
/-- All parts have been filled. -/
theorem FlI.done {W wr : World} {N c c5 : Nat} {b : Bf} {k n : Int} {s : ByteArray} {l ls : List Tm} {A A5 : Option Addr} (hNW : N ≤ W.heap.size) (hfl : fillL l b = some ls) (ok : TOk (.mk k n s l) A c) (hrow : TRow wr (W.heap.size + 3) (fun b => b < N ∨ W.heap.size + 3 ≤ b) (.slice A5 ls.length c5) ls) (hbl : Below W.heap.size W wr) (hE : fillP (.mk k n s l) b = (fillL l b).map fun l' => .mk k n s l') :
    FillPost W N (fillP (.mk k n s l) b) (.returned (.tuple #[.agg #[.int .i64 k, .int .i64 n, .string s, .slice A5 ls.length c5], .bool true])) (put4 wr (W.heap.size + 1) (.int .i64 k) (.int .i64 n) (.string s) (.slice A5 ls.length c5)) := by
  have hk := put4_keep (Keep.refl (fun x => x = W.heap.size + 1) wr) (g := W.heap.size + 1) (.inl rfl) (.int .i64 k) (.int .i64 n) (.string s) (.slice A5 ls.length c5)
  have hr := trow_keepQ hrow hk (fun b h e => by omega) (fun b h e => by rcases h with h | h <;> omega)
  obtain ⟨A', c', e, h1, h2, h3, hts⟩ := hr.slAt (F := fun b => b < N ∨ Fr W (put4 wr (W.heap.size + 1) (.int .i64 k) (.int .i64 n) (.string s) (.slice A5 ls.length c5)) b) (fun b h1 h2 => by rcases h2 with h2 | h2; exact .inl h2; exact .inr ⟨by omega, h1⟩) (fun b h1 h2 => .inr ⟨by omega, h1⟩)
  injection e with e1 e2 e3
  subst e1 e3
  exact ⟨put4_below hbl (Nat.le_succ _) _ _ _ _, k, n, s, A5, ls.length, c5, .inr ⟨.mk k n s ls, by rw [hE, hfl]; rfl, rfl, TAt.of (t := .mk k n s ls) ⟨ok.wk, ok.wn, ok.ws, h1, h2, h3⟩ hts⟩⟩
set_option maxRecDepth 100000 in
set_option maxHeartbeats 16000000 in
theorem fill_loop (g N : Nat) (b : Bf) (k n : Int) (s : ByteArray) (l : List Tm) (A : Option Addr) (c : Nat) (W : World) (h79 : k = 7 ∨ k = 9) (ih : ∀ u ∈ l, FillC g N b u) (hnp : nodesL l ≤ 1048576) (hb : BdI W g N b) (ok : TOk (.mk k n s l) A c) (hl : TsAt W (· < N) A l) :
    Calls Try.prog 49 #[.pointer (some ⟨g, 0, none⟩), .agg #[.int .i64 k, .int .i64 n, .string s, .slice A l.length c]] W (FillPost W N (fillP (.mk k n s l) b)) := by
  obtain ⟨i0, hin, hz0, hz1, hz2⟩ := info_parts infoT
  have hlen : l.length ≤ 1048576 := Nat.le_trans (nodesL_len l) hnp
  have hk2 : k ≠ 2 := by omega
  have HE := Lib.hid (show fillP (.mk k n s l) b = (fillL l b).map fun l' => .mk k n s l' from by rw [fillP, if_neg hk2, if_pos h79])
  have hgl := hb.lt
  have hNg := hb.1
  have HI0 := Lib.hid (show FlI W N b k n s l A c 0 (((W.alloc (.cells #[.int .i64 k, .int .i64 n, .string s, .slice A l.length c] 24)).alloc (.cells #[.int .i64 0, .int .i64 0, .string ⟨#[]⟩, .slice none 0 0] 24)).alloc (.cells #[.int .i64 k, .int .i64 n, .string s, .slice none 0 0] 24)) from by
    have g1 := Blk.new (W.alloc (.cells #[.int .i64 k, .int .i64 n, .string s, .slice A l.length c] 24)) 24 #[.int .i64 0, .int .i64 0, .string ⟨#[]⟩, .slice none 0 0]
    have g2 := Blk.new ((W.alloc (.cells #[.int .i64 k, .int .i64 n, .string s, .slice A l.length c] 24)).alloc (.cells #[.int .i64 0, .int .i64 0, .string ⟨#[]⟩, .slice none 0 0] 24)) 24 #[.int .i64 k, .int .i64 n, .string s, .slice none 0 0]
    simp only [World.size_alloc] at g1 g2
    exact ⟨_, [], by rw [List.take_zero, fillL_nil], ((Blk.new _ _ _).alloc _).alloc _, g1.alloc _, g2, TRow.none_ _ _ _, ballocs (ballocs (ballocs (Below.refl _ _) _) _) _⟩)
  have HBD := Lib.hid hb
  have HL := Lib.hid hl
  have HOK := Lib.hid ok
  have HIH := Lib.hid (show ∀ u, u ∈ l → nodes u ≤ 1048576 ∧ FillC g N b u from fun u hu => ⟨Nat.le_trans (nodesL_mem hu) hnp, ih u hu⟩)
  have HH79 := Lib.hid h79
  clear hb hl ok ih hnp
  rcases h79 with rfl | rfl
  · go_enter Try.func49, Try.ntmps49
    go_wp2_with fail
    go_loopw [47] (fun x wr => ∃ i : Nat, i ≤ l.length ∧ x = .int .i64 (i : Int) ∧ FlI W N b 7 n s l A c i wr) (fun x _ => l.length - (intOf x).toNat)
    case atStart => exact ⟨0, Nat.zero_le _, rfl, HI0.out⟩
    case round =>
      obtain ⟨i, hi, rfl, row, ls, hfl, hg0, hg1, hg2, hrow, hbl⟩ := hrel
      clear HI0
      by_cases hlt : i < l.length
      · obtain ⟨u, hu⟩ : ∃ u, l[i]? = some u := ⟨_, List.getElem?_eq_getElem hlt⟩
        obtain ⟨bb, o, A1, c1, rfl, hb1, d0, d1, d2, d3, ok1, hta⟩ := (HL.out.keep (w' := wr) (fun q hq => hbl.cell (by have : q.block < N := hq; omega))).at_ hu
        have HFL := Lib.hid hfl; have HG0 := Lib.hid hg0; have HG1 := Lib.hid hg1; have HG2 := Lib.hid hg2; have HROW := Lib.hid hrow; have HBL := Lib.hid hbl
        have HU := Lib.hid hu
        have HTA := Lib.hid (TAt.of ok1 hta)
        have hi0 : (0 : Int) ≤ (i : Int) := by omega
        have hil : (i : Int) < (l.length : Int) := by omega
        clear hfl hg0 hg1 hg2 hbl hu hta ok1
        obtain ⟨W5, hW5⟩ : ∃ W5, wr.alloc (.cells #[.int .i64 u.k, .int .i64 u.n, .string u.s, .slice A1 u.l.length c1] 24) = W5 := ⟨_, rfl⟩
        have hb5 : Below wr.heap.size wr W5 := by rw [← hW5]; exact ballocs (Below.refl _ _) _
        have HB5 := Lib.hid (bnext HBL.out hb5)
        have HB5' := Lib.hid hb5
        have HW5 := Lib.hid hW5
        have HC := Lib.hid ((HIH.out u (List.mem_of_getElem? HU.out)).2 (HIH.out u (List.mem_of_getElem? HU.out)).1 _ W5 (HBD.out.later HB5.out) (HTA.out.keep (w' := W5) (fun q hq => hb5.cell (by have : q.block < N := hq; have := HBL.out.size; omega))))
        clear hb5 hW5
        go_wp2_with fail
        rw [HW5.out]
        refine HC.out.mono ?_
        rintro e w6 ⟨hb6, k6, m6, s6, A6, l6, c6, (⟨ho, rfl⟩ | ⟨t, ho, rfl, ht⟩)⟩
        · have HB6 := Lib.hid (bnext HB5.out hb6)
          have HN := Lib.hid (fillL_none HU.out ho)
          have hg1' := HG1.out.below (HB5'.out.trans (hb6.mono HB5'.out.size)) HG1.out.lt
          obtain ⟨p0, p1, p2, p3, q0, q1, q2, q3⟩ := (hg1'.alloc (.cells #[.int .i64 k6, .int .i64 m6, .string s6, .slice A6 l6 c6] 24)).four
          have HG6 := Lib.hid (hg1'.alloc (.cells #[.int .i64 k6, .int .i64 m6, .string s6, .slice A6 l6 c6] 24))
          clear hb6 ho d0 d1 d2 d3 hg1'
          go_wp2_with fail
          obtain ⟨r0, r1, r2, r3, _, _, _, _⟩ := (put4_blk HG6.out (.int .i64 0) (.int .i64 0) (.string ⟨#[]⟩) (.slice none 0 0)).four
          unfold put4 at r0 r1 r2 r3
          refine bodyPost_ret (v := .tuple #[.agg #[.int .i64 0, .int .i64 0, .string ⟨#[]⟩, .slice none 0 0], .bool false]) (by simp [results, Try.results49, go_sem, r0, r1, r2, r3]) rfl ?_
          refine ⟨put4_below (ballocs HB6.out _) (Nat.le_succ _) _ _ _ _, _, _, _, _, _, _, .inl ⟨by rw [HE.out, HN.out]; rfl, rfl⟩⟩
        · have HB6 := Lib.hid (bnext HB5.out hb6)
          have HB6' := Lib.hid (HB5'.out.trans (hb6.mono HB5'.out.size))
          obtain ⟨w7, hw7⟩ : ∃ x, w6.alloc (.cells #[.int .i64 k6, .int .i64 m6, .string s6, .slice A6 l6 c6] 24) = x := ⟨_, rfl⟩
          have hb67 : Below w6.heap.size w6 w7 := by rw [← hw7]; exact ballocs (Below.refl _ _) _
          have ht7 : Blk w7 w6.heap.size 24 #[.int .i64 k6, .int .i64 m6, .string s6, .slice A6 l6 c6] := by rw [← hw7]; exact Blk.new _ _ _
          have hb7 : Below wr.heap.size wr w7 := HB6'.out.trans (hb67.mono HB6'.out.size)
          obtain ⟨A3, c3, rfl, _, _, _⟩ := hrow.form
          obtain ⟨G, vs, hV, hG, hRw⟩ := hrow
          have hR7 := ownsRow_below hRw hb7 (fun r hr => (hRw.lt r hr).2)
          have HR7 := Lib.hid hR7
          have HV := Lib.hid hV; have HG := Lib.hid hG; have HRw := Lib.hid hRw
          have HB67 := Lib.hid hb67; have HB7 := Lib.hid hb7
          have hg2' := HG2.out.below hb7 HG2.out.lt
          obtain ⟨p0, p1, p2, p3, q0, q1, q2, q3⟩ := hg2'.four
          obtain ⟨t0, t1, t2, t3, _, _, _, _⟩ := ht7.four
          have HG27 := Lib.hid hg2'
          have HT6 := Lib.hid ht
          have HO := Lib.hid ho
          have hll : ls.length = i := by have := fillL_len HFL.out; rw [List.length_take] at this; omega
          have b1 : ls.length + 1 ≤ maxLen := by unfold maxLen; omega
          have b2 : (ls.length + 1) * 56 ≤ 140737488355328 := by omega
          have b3 : W.heap.size + 3 ≤ (w7.alloc (.cells #[.int .i64 k6, .int .i64 m6, .string s6, .slice A6 l6 c6] 24)).heap.size := by have := HG2.out.lt; have := hb7.size; simp; omega
          have HLL := Lib.hid hll
          subst hw7
          clear hb67 ht7 hb7 hV hG hRw hR7 hg2' ht ho hb6 hll d0 d1 d2 d3
          go_wp2_with (first
            | (at_builtin; refine wpList_append_own_at _ rfl _ _ 22 rfl (W.heap.size + 3) 24 i0 _ 4 56 Try.underlying22 hin hz0 hz1 hz2 rfl (by decide) (.slice A3 ls.length c3) ls.length _ rfl (HR7.out.alloc _) ⟨w6.heap.size + 1, 0, none⟩ 1 1 [.int .i64 k6, .int .i64 m6, .string s6, .slice A6 l6 c6] rfl rfl (by have h := cells4_new (w6.alloc (.cells #[.int .i64 k6, .int .i64 m6, .string s6, .slice A6 l6 c6] 24)) (.int .i64 k6) (.int .i64 m6) (.string s6) (.slice A6 l6 c6) 24; simp only [World.size_alloc] at h; exact h) (one4 _ _ _ _ _ _) b1 b2 b3 ?_; intro v3 w3 hR3 hg3 _ hat3
               obtain ⟨A5, c5, rfl, _, _⟩ := ownsRow_form hR3
               have hg23 := (HG27.out.alloc (.cells #[.int .i64 k6, .int .i64 m6, .string s6, .slice A6 l6 c6] 24)).grown hg3 (fun e => by have := (HRw.out.lt _ e.symm).1; omega)
               obtain ⟨z0, z1, z2, z3, y0, y1, y2, y3⟩ := hg23.four
               have HG23 := Lib.hid hg23; have HR3 := Lib.hid hR3; have HG3 := Lib.hid hg3; have HAT3 := Lib.hid hat3
               clear hg23 hR3 hg3 hat3 p0 p1 p2 p3 q0 q1 q2 q3 t0 t1 t2 t3)
            | fail)
          refine ⟨⟨i + 1, by omega, by go_num, ?_⟩, by simp [intOf]; omega⟩
          exact FlI.step (by omega) HFL.out HU.out HO.out HG0.out HG1.out HBL.out HB5'.out HB7.out HB67.out HV.out HG.out HRw.out HT6.out HG23.out HG2.out.lt HB6'.out.size HR3.out HG3.out HAT3.out
      · obtain rfl : i = l.length := by omega
        rw [List.take_length] at hfl
        obtain ⟨A3, c3, rfl, _, _, _⟩ := hrow.form
        have HD := Lib.hid (FlI.done (Nat.le_of_lt (Nat.lt_of_le_of_lt hNg hgl)) hfl HOK.out hrow hbl HE.out)
        have HG1 := Lib.hid hg1
        obtain ⟨p0, p1, p2, p3, q0, q1, q2, q3⟩ := hg1.four
        obtain ⟨o0, o1, o2, o3, _, _, _, _⟩ := hg2.four
        clear hfl hg0 hg1 hg2 hrow hbl
        go_wp2_with fail
        obtain ⟨r0, r1, r2, r3, _, _, _, _⟩ := (put4_blk HG1.out (.int .i64 7) (.int .i64 n) (.string s) (.slice A3 ls.length c3)).four
        unfold put4 at r0 r1 r2 r3
        exact bodyPost_ret (v := .tuple #[.agg #[.int .i64 7, .int .i64 n, .string s, .slice A3 ls.length c3], .bool true]) (by simp [results, Try.results49, go_sem, r0, r1, r2, r3]) rfl HD.out
  · go_enter Try.func49, Try.ntmps49
    go_wp2_with fail
    go_loopw [47] (fun x wr => ∃ i : Nat, i ≤ l.length ∧ x = .int .i64 (i : Int) ∧ FlI W N b 9 n s l A c i wr) (fun x _ => l.length - (intOf x).toNat)
    case atStart => exact ⟨0, Nat.zero_le _, rfl, HI0.out⟩
    case round =>
      obtain ⟨i, hi, rfl, row, ls, hfl, hg0, hg1, hg2, hrow, hbl⟩ := hrel
      clear HI0
      by_cases hlt : i < l.length
      · obtain ⟨u, hu⟩ : ∃ u, l[i]? = some u := ⟨_, List.getElem?_eq_getElem hlt⟩
        obtain ⟨bb, o, A1, c1, rfl, hb1, d0, d1, d2, d3, ok1, hta⟩ := (HL.out.keep (w' := wr) (fun q hq => hbl.cell (by have : q.block < N := hq; omega))).at_ hu
        have HFL := Lib.hid hfl; have HG0 := Lib.hid hg0; have HG1 := Lib.hid hg1; have HG2 := Lib.hid hg2; have HROW := Lib.hid hrow; have HBL := Lib.hid hbl
        have HU := Lib.hid hu
        have HTA := Lib.hid (TAt.of ok1 hta)
        have hi0 : (0 : Int) ≤ (i : Int) := by omega
        have hil : (i : Int) < (l.length : Int) := by omega
        clear hfl hg0 hg1 hg2 hbl hu hta ok1
        obtain ⟨W5, hW5⟩ : ∃ W5, wr.alloc (.cells #[.int .i64 u.k, .int .i64 u.n, .string u.s, .slice A1 u.l.length c1] 24) = W5 := ⟨_, rfl⟩
        have hb5 : Below wr.heap.size wr W5 := by rw [← hW5]; exact ballocs (Below.refl _ _) _
        have HB5 := Lib.hid (bnext HBL.out hb5)
        have HB5' := Lib.hid hb5
        have HW5 := Lib.hid hW5
        have HC := Lib.hid ((HIH.out u (List.mem_of_getElem? HU.out)).2 (HIH.out u (List.mem_of_getElem? HU.out)).1 _ W5 (HBD.out.later HB5.out) (HTA.out.keep (w' := W5) (fun q hq => hb5.cell (by have : q.block < N := hq; have := HBL.out.size; omega))))
        clear hb5 hW5
        go_wp2_with fail
        rw [HW5.out]
        refine HC.out.mono ?_
        rintro e w6 ⟨hb6, k6, m6, s6, A6, l6, c6, (⟨ho, rfl⟩ | ⟨t, ho, rfl, ht⟩)⟩
        · have HB6 := Lib.hid (bnext HB5.out hb6)
          have HN := Lib.hid (fillL_none HU.out ho)
          have hg1' := HG1.out.below (HB5'.out.trans (hb6.mono HB5'.out.size)) HG1.out.lt
          obtain ⟨p0, p1, p2, p3, q0, q1, q2, q3⟩ := (hg1'.alloc (.cells #[.int .i64 k6, .int .i64 m6, .string s6, .slice A6 l6 c6] 24)).four
          have HG6 := Lib.hid (hg1'.alloc (.cells #[.int .i64 k6, .int .i64 m6, .string s6, .slice A6 l6 c6] 24))
          clear hb6 ho d0 d1 d2 d3 hg1'
          go_wp2_with fail
          obtain ⟨r0, r1, r2, r3, _, _, _, _⟩ := (put4_blk HG6.out (.int .i64 0) (.int .i64 0) (.string ⟨#[]⟩) (.slice none 0 0)).four
          unfold put4 at r0 r1 r2 r3
          refine bodyPost_ret (v := .tuple #[.agg #[.int .i64 0, .int .i64 0, .string ⟨#[]⟩, .slice none 0 0], .bool false]) (by simp [results, Try.results49, go_sem, r0, r1, r2, r3]) rfl ?_
          refine ⟨put4_below (ballocs HB6.out _) (Nat.le_succ _) _ _ _ _, _, _, _, _, _, _, .inl ⟨by rw [HE.out, HN.out]; rfl, rfl⟩⟩
        · have HB6 := Lib.hid (bnext HB5.out hb6)
          have HB6' := Lib.hid (HB5'.out.trans (hb6.mono HB5'.out.size))
          obtain ⟨w7, hw7⟩ : ∃ x, w6.alloc (.cells #[.int .i64 k6, .int .i64 m6, .string s6, .slice A6 l6 c6] 24) = x := ⟨_, rfl⟩
          have hb67 : Below w6.heap.size w6 w7 := by rw [← hw7]; exact ballocs (Below.refl _ _) _
          have ht7 : Blk w7 w6.heap.size 24 #[.int .i64 k6, .int .i64 m6, .string s6, .slice A6 l6 c6] := by rw [← hw7]; exact Blk.new _ _ _
          have hb7 : Below wr.heap.size wr w7 := HB6'.out.trans (hb67.mono HB6'.out.size)
          obtain ⟨A3, c3, rfl, _, _, _⟩ := hrow.form
          obtain ⟨G, vs, hV, hG, hRw⟩ := hrow
          have hR7 := ownsRow_below hRw hb7 (fun r hr => (hRw.lt r hr).2)
          have HR7 := Lib.hid hR7
          have HV := Lib.hid hV; have HG := Lib.hid hG; have HRw := Lib.hid hRw
          have HB67 := Lib.hid hb67; have HB7 := Lib.hid hb7
          have hg2' := HG2.out.below hb7 HG2.out.lt
          obtain ⟨p0, p1, p2, p3, q0, q1, q2, q3⟩ := hg2'.four
          obtain ⟨t0, t1, t2, t3, _, _, _, _⟩ := ht7.four
          have HG27 := Lib.hid hg2'
          have HT6 := Lib.hid ht
          have HO := Lib.hid ho
          have hll : ls.length = i := by have := fillL_len HFL.out; rw [List.length_take] at this; omega
          have b1 : ls.length + 1 ≤ maxLen := by unfold maxLen; omega
          have b2 : (ls.length + 1) * 56 ≤ 140737488355328 := by omega
          have b3 : W.heap.size + 3 ≤ (w7.alloc (.cells #[.int .i64 k6, .int .i64 m6, .string s6, .slice A6 l6 c6] 24)).heap.size := by have := HG2.out.lt; have := hb7.size; simp; omega
          have HLL := Lib.hid hll
          subst hw7
          clear hb67 ht7 hb7 hV hG hRw hR7 hg2' ht ho hb6 hll d0 d1 d2 d3
          go_wp2_with (first
            | (at_builtin; refine wpList_append_own_at _ rfl _ _ 22 rfl (W.heap.size + 3) 24 i0 _ 4 56 Try.underlying22 hin hz0 hz1 hz2 rfl (by decide) (.slice A3 ls.length c3) ls.length _ rfl (HR7.out.alloc _) ⟨w6.heap.size + 1, 0, none⟩ 1 1 [.int .i64 k6, .int .i64 m6, .string s6, .slice A6 l6 c6] rfl rfl (by have h := cells4_new (w6.alloc (.cells #[.int .i64 k6, .int .i64 m6, .string s6, .slice A6 l6 c6] 24)) (.int .i64 k6) (.int .i64 m6) (.string s6) (.slice A6 l6 c6) 24; simp only [World.size_alloc] at h; exact h) (one4 _ _ _ _ _ _) b1 b2 b3 ?_; intro v3 w3 hR3 hg3 _ hat3
               obtain ⟨A5, c5, rfl, _, _⟩ := ownsRow_form hR3
               have hg23 := (HG27.out.alloc (.cells #[.int .i64 k6, .int .i64 m6, .string s6, .slice A6 l6 c6] 24)).grown hg3 (fun e => by have := (HRw.out.lt _ e.symm).1; omega)
               obtain ⟨z0, z1, z2, z3, y0, y1, y2, y3⟩ := hg23.four
               have HG23 := Lib.hid hg23; have HR3 := Lib.hid hR3; have HG3 := Lib.hid hg3; have HAT3 := Lib.hid hat3
               clear hg23 hR3 hg3 hat3 p0 p1 p2 p3 q0 q1 q2 q3 t0 t1 t2 t3)
            | fail)
          refine ⟨⟨i + 1, by omega, by go_num, ?_⟩, by simp [intOf]; omega⟩
          exact FlI.step (by omega) HFL.out HU.out HO.out HG0.out HG1.out HBL.out HB5'.out HB7.out HB67.out HV.out HG.out HRw.out HT6.out HG23.out HG2.out.lt HB6'.out.size HR3.out HG3.out HAT3.out
      · obtain rfl : i = l.length := by omega
        rw [List.take_length] at hfl
        obtain ⟨A3, c3, rfl, _, _, _⟩ := hrow.form
        have HD := Lib.hid (FlI.done (Nat.le_of_lt (Nat.lt_of_le_of_lt hNg hgl)) hfl HOK.out hrow hbl HE.out)
        have HG1 := Lib.hid hg1
        obtain ⟨p0, p1, p2, p3, q0, q1, q2, q3⟩ := hg1.four
        obtain ⟨o0, o1, o2, o3, _, _, _, _⟩ := hg2.four
        clear hfl hg0 hg1 hg2 hrow hbl
        go_wp2_with fail
        obtain ⟨r0, r1, r2, r3, _, _, _, _⟩ := (put4_blk HG1.out (.int .i64 9) (.int .i64 n) (.string s) (.slice A3 ls.length c3)).four
        unfold put4 at r0 r1 r2 r3
        exact bodyPost_ret (v := .tuple #[.agg #[.int .i64 9, .int .i64 n, .string s, .slice A3 ls.length c3], .bool true]) (by simp [results, Try.results49, go_sem, r0, r1, r2, r3]) rfl HD.out
set_option maxRecDepth 100000 in
set_option maxHeartbeats 16000000 in
theorem fill_any (g N : Nat) (b : Bf) : ∀ p : Tm, FillC g N b p := by
  refine Tm.ind fun p ih hnp vp W hb hp => ?_
  have hp0 := hp
  obtain ⟨A, c, rfl, ok, hl⟩ := hp.inv
  obtain ⟨k, n, s, l⟩ := p
  unfold tv at hp0 ⊢
  simp only [Tm.k_mk, Tm.n_mk, Tm.s_mk, Tm.l_mk] at hp0 ih hl ⊢
  by_cases h79 : k = 7 ∨ k = 9
  · exact fill_loop g N b k n s l A c W h79 ih (by rw [nodes_mk] at hnp; omega) hb ok hl
  have hk7 : k ≠ 7 := fun e => h79 (.inl e)
  have hk9 : k ≠ 9 := fun e => h79 (.inr e)
  have hNg := hb.1
  have hgl := hb.lt
  have HNS := Lib.hid (fun w => number_any s ok.ws w)
  obtain ⟨W2, hW2⟩ : ∃ W2, (W.alloc (.cells #[.int .i64 k, .int .i64 n, .string s, .slice A l.length c] 24)).alloc (.cells #[.int .i64 0, .int .i64 0, .string ⟨#[]⟩, .slice none 0 0] 24) = W2 := ⟨_, rfl⟩
  have hb2 : Below W.heap.size W W2 := by rw [← hW2]; exact ballocs (ballocs (Below.refl _ _) _) _
  have hgp : Blk W2 W.heap.size 24 #[.int .i64 k, .int .i64 n, .string s, .slice A l.length c] := by rw [← hW2]; exact (Blk.new _ _ _).alloc _
  have hgr : Blk W2 (W.heap.size + 1) 24 #[.int .i64 0, .int .i64 0, .string ⟨#[]⟩, .slice none 0 0] := by
    rw [← hW2]
    have := Blk.new (W.alloc (.cells #[.int .i64 k, .int .i64 n, .string s, .slice A l.length c] 24)) 24 #[.int .i64 0, .int .i64 0, .string ⟨#[]⟩, .slice none 0 0]
    simp only [World.size_alloc] at this
    exact this
  have HW2 := Lib.hid hW2
  have HB2 := Lib.hid hb2
  have HGP := Lib.hid hgp
  have HGR := Lib.hid hgr
  have HBD := Lib.hid hb
  have HP := Lib.hid hp0
  have HNP := Lib.hid hnp
  have HRET := Lib.hid (show ∀ w', Below W.heap.size W w' → fillP (.mk k n s l) b = some (.mk k n s l) → FillPost W N (fillP (.mk k n s l) b) (.returned (.tuple #[.agg #[.int .i64 k, .int .i64 n, .string s, .slice A l.length c], .bool true])) w' from fun w' h0 he =>
    ⟨h0, k, n, s, A, l.length, c, .inr ⟨_, he, rfl, (hp0.keep fun q hq => h0.cell (by have : q.block < N := hq; omega)).mono fun b hb => .inl hb⟩⟩)
  clear hp hp0 hl hb hb2 hgp hgr hW2 ih hnp ok h79
  by_cases h2 : k = 2
  · subst h2
    by_cases hus : s = uscore
    · have hu1 : (s.toList == [95]) = true := by rw [hus, Lib.toList_data]; rfl
      have hu2 : s.toList = [95] := by rw [hus, Lib.toList_data]; rfl
      have HE := Lib.hid (show fillP (.mk 2 n s l) b = none from by rw [fillP]; simp [hus])
      obtain ⟨p0, p1, p2, p3, _, _, _, _⟩ := HGP.out.four
      obtain ⟨q0, q1, q2, q3, t0, t1, t2, t3⟩ := HGR.out.four
      clear hus
      go_enter Try.func49, Try.ntmps49
      go_wp2_with fail
      rw [HW2.out]
      exact bodyPost_ret (v := .tuple #[.agg #[.int .i64 0, .int .i64 0, .string ⟨#[]⟩, .slice none 0 0], .bool false]) (by simp [results, Try.results49, go_sem, q0, q1, q2, q3]) rfl ⟨HB2.out, _, _, _, _, _, _, .inl ⟨HE.out, rfl⟩⟩
    · have hu1 := us_ne hus
      cases hns : numS s with
      | none =>
        have HE := Lib.hid (show fillP (.mk 2 n s l) b = some (.mk 2 n s l) from by rw [fillP]; simp [hus, hns])
        rw [hns] at HNS
        unfold numV at HNS
        clear hus hns
        obtain ⟨p0, p1, p2, p3, _, _, _, _⟩ := HGP.out.four
        go_enter Try.func49, Try.ntmps49
        go_wp2_with fail
        rw [HW2.out]
        refine (HNS.out W2).mono ?_
        rintro e w3 ⟨rfl, hb3⟩
        have HB3 := Lib.hid (bnext HB2.out hb3)
        have HGR3 := Lib.hid (HGR.out.below hb3 HGR.out.lt)
        obtain ⟨p0', p1', p2', p3', _, _, _, _⟩ := (HGP.out.below hb3 HGP.out.lt).four
        obtain ⟨q0, q1, q2, q3, t0, t1, t2, t3⟩ := HGR3.out.four
        clear hb3 p0 p1 p2 p3
        go_wp2_with fail
        obtain ⟨r0, r1, r2, r3, _, _, _, _⟩ := (put4_blk HGR3.out (.int .i64 2) (.int .i64 n) (.string s) (.slice A l.length c)).four
        unfold put4 at r0 r1 r2 r3
        exact bodyPost_ret (v := .tuple #[.agg #[.int .i64 2, .int .i64 n, .string s, .slice A l.length c], .bool true]) (by simp [results, Try.results49, go_sem, r0, r1, r2, r3]) rfl (HRET.out _ (put4_below HB3.out (Nat.le_succ _) _ _ _ _) HE.out)
      | some q =>
        rw [hns] at HNS
        unfold numV at HNS
        have hq : q < 100 := numL_lt hns
        have HE := Lib.hid (show fillP (.mk 2 n s l) b = b q from by rw [fillP]; simp [hus, hns])
        clear hus hns
        obtain ⟨p0, p1, p2, p3, _, _, _, _⟩ := HGP.out.four
        go_enter Try.func49, Try.ntmps49
        go_wp2_with fail
        rw [HW2.out]
        refine (HNS.out W2).mono ?_
        rintro e w3 ⟨rfl, hb3⟩
        have HB3 := Lib.hid (bnext HB2.out hb3)
        have HGR3 := Lib.hid (HGR.out.below hb3 HGR.out.lt)
        have hbd3 := (HBD.out.later HB2.out).later hb3
        have HBD3 := Lib.hid hbd3
        obtain ⟨kq, mq, sq, Aq, lq, cq, ⟨c0, c1, c2, c3⟩, _, hsq, _⟩ := hbd3.2.2 q hq
        have HSQ := Lib.hid hsq
        have HHAS := Lib.hid (show Calls Try.prog 53 #[.pointer (some ⟨g, 0, none⟩), .int .i64 (q : Int)] w3.drew fun e w' => e = .returned (.bool (b q).isSome) ∧ w3.drew = w' from (hbd3.later (bdrew_any (Below.refl _ _))).has hq)
        obtain ⟨q0, q1, q2, q3, t0, t1, t2, t3⟩ := HGR3.out.four
        clear hb3 p0 p1 p2 p3 hbd3 hsq
        go_wp2_with fail
        go_region_with (go_at_call 53; refine HHAS.out.mono ?_; rintro e w5 ⟨rfl, rfl⟩)
        all_goals
          go_wp2_with fail
          obtain ⟨r0, r1, r2, r3, _, _, _, _⟩ := (put4_blk HGR3.out (.int .i64 kq) (.int .i64 mq) (.string sq) (.slice Aq lq cq)).four
          have hbp := put4_below HB3.out (Nat.le_succ W.heap.size) (.int .i64 kq) (.int .i64 mq) (.string sq) (.slice Aq lq cq)
          refine bodyPost_ret (v := .tuple #[.agg #[.int .i64 kq, .int .i64 mq, .string sq, .slice Aq lq cq], .bool (b q).isSome]) (by unfold put4 at r0 r1 r2 r3; simp [results, Try.results49, go_sem, r0, r1, r2, r3]) rfl ⟨bdrew_any hbp, kq, mq, sq, Aq, lq, cq, ?_⟩
          cases hbq : b q with
          | none => exact .inl ⟨by rw [HE.out, hbq], rfl⟩
          | some t => exact .inr ⟨t, by rw [HE.out, hbq], rfl, ((((HSQ.out t hbq).1.keep (w' := put4 w3 (W.heap.size + 1) (.int .i64 kq) (.int .i64 mq) (.string sq) (.slice Aq lq cq)) (fun p hp => put4_cell _ _ _ _ _ _ p (fun e => by have : p.block < N := hp; omega))).keep (w' := (put4 w3 (W.heap.size + 1) (.int .i64 kq) (.int .i64 mq) (.string sq) (.slice Aq lq cq)).drew) (fun _ _ => rfl)).mono fun b hb => .inl hb)⟩
  · have HE := Lib.hid (show fillP (.mk k n s l) b = some (.mk k n s l) from by rw [fillP, if_neg h2, if_neg (fun h => h.elim hk7 hk9)])
    go_enter Try.func49, Try.ntmps49
    go_wp2_with fail
    have g1 := Blk.new (W.alloc (.cells #[.int .i64 k, .int .i64 n, .string s, .slice A l.length c] 24)) 24 #[.int .i64 k, .int .i64 n, .string s, .slice A l.length c]
    simp only [World.size_alloc] at g1
    obtain ⟨r0, r1, r2, r3, _, _, _, _⟩ := g1.four
    exact bodyPost_ret (v := .tuple #[.agg #[.int .i64 k, .int .i64 n, .string s, .slice A l.length c], .bool true]) (by simp [results, Try.results49, go_sem, r0, r1, r2, r3]) rfl (HRET.out _ (ballocs (ballocs (Below.refl _ _) _) _) HE.out)
end Go.Proofs.Ytlaplakaifmpeaa.Pt
