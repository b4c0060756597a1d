/- tenureref02.Copy; rows of bindings that read. tenureref16.find, bind, by contracts. -/
import Derived.Test.YtlaplakaifmpeaaPatRefP
import Derived.Test.YtlaplakaifmpeaaPatKit
import Derived.Test.YtlaplakaifmpeaaRefTm
namespace Go.Proofs.Ytlaplakaifmpeaa.Pt
open Go.RowKit K Go.Shelf
set_option linter.unusedVariables false
set_option linter.unusedSimpArgs false
set_option maxRecDepth 100000 in
set_option maxHeartbeats 4000000 in
theorem rcopy_any : ∀ t : Tm, nodes t ≤ 1048576 → ∀ (v : Value) (w : World), TA w t v → Calls Try.prog 52 #[v] w (Copied w t) := by
  refine Tm.ind fun t ih hn v w h => ?_
  obtain ⟨k, n, s, l, A, c, rfl, rfl, ok, hl⟩ := h.open_
  simp only [Tm.l_mk] at ih
  rw [nodes_mk] at hn
  have hlen : l.length ≤ 1048576 := Nat.le_trans (nodesL_len l) (by omega)
  have hll : l.length ≤ 9223372036854775807 := by omega
  obtain ⟨W2, hW2⟩ : ∃ W2, (w.alloc (.cells #[.int .i64 k, .int .i64 n, .string s, .slice A l.length c] 24)).alloc (.cells #[.int .i64 0, .int .i64 0, .string ⟨#[]⟩, .slice none 0 0] 24) = W2 := ⟨_, rfl⟩
  have hb2 : Below w.heap.size w W2 := by rw [← hW2]; exact ballocs (ballocs (Below.refl _ _) _) _
  have hg : Blk W2 w.heap.size 24 #[.int .i64 k, .int .i64 n, .string s, .slice A l.length c] := by rw [← hW2]; exact (Blk.new _ _ _).alloc _
  have hr : Blk W2 (w.heap.size + 1) 24 #[.int .i64 0, .int .i64 0, .string ⟨#[]⟩, .slice none 0 0] := by
    rw [← hW2]
    have := Blk.new (w.alloc (.cells #[.int .i64 k, .int .i64 n, .string s, .slice A l.length c] 24)) 24 #[.int .i64 0, .int .i64 0, .string ⟨#[]⟩, .slice none 0 0]
    simp only [World.size_alloc] at this
    exact this
  have hz2 : W2.heap.size = w.heap.size + 2 := by rw [← hW2]; simp
  have HZ2 := Lib.hid hz2
  have HL := Lib.hid (hl.later hb2)
  have HB2 := Lib.hid hb2; have HG := Lib.hid hg; have HR := Lib.hid hr; have HW2 := Lib.hid hW2
  have HO := Lib.hid ok
  have HIH := Lib.hid (fun u hu => ih u hu (by have := nodesL_mem hu; omega))
  obtain ⟨i0, hi, hz0, hz1, hz2'⟩ := info_parts infoT
  have HZ := Lib.hid (show W2.heap.size ≤ W2.heap.size from Nat.le_refl _)
  clear ih hn h hl ok hb2 hg hr hW2 hz2
  go_enter Try.func52, Try.ntmps52
  go_wp2_with fail
  rw [HW2.out]
  go_loopw [3, 4] (fun v i wr => CpRel W2 l v i wr) (fun _ i _ => l.length - (intOf i).toNat)
  case atStart => exact ⟨0, Nat.zero_le _, rfl, by simpa using TRow.none_ _ _ _, Below.refl _ _⟩
  case round =>
    obtain ⟨i, hi', rfl, hT, hb⟩ := hrel
    obtain ⟨A3, c3, rfl, _, _, _⟩ := hT.form
    have hlk : (l.take i).length = i := by rw [List.length_take]; omega
    rw [hlk] at hT ⊢
    have HB := Lib.hid hb
    have HGr := Lib.hid (HG.out.below hb HG.out.lt)
    have HRr := Lib.hid (HR.out.below hb HR.out.lt)
    obtain ⟨p0, p1, p2, p3, _, _, _, f3⟩ := HGr.out.four
    have hbz := hb.size
    clear hb
    by_cases hlt : i < l.length
    · obtain ⟨u, hu⟩ : ∃ u, l[i]? = some u := ⟨_, List.getElem?_eq_getElem hlt⟩
      obtain ⟨b, o, A1, c1, rfl, hb1, d0, d1, d2, d3, hta, _⟩ := (HL.out.later HB.out).at_ hu
      have hm := List.mem_of_getElem? hu
      have HC := Lib.hid (HIH.out u hm _ _ hta)
      have HU := Lib.hid hu
      obtain ⟨G, vs, hV, hG, hRw⟩ := hT
      rw [hlk] at hRw
      have HV := Lib.hid hV; have HGG := Lib.hid hG; have HRw := Lib.hid hRw
      have HK := Lib.hid hlk
      clear hta hu hm hV hG hRw hlk
      go_wp2_with fail
      refine HC.out.mono ?_
      rintro e w4 ⟨v4, rfl, hx, hb4⟩
      obtain ⟨A4, c4, rfl, ok4, hl4⟩ := hx.inv
      unfold tv at hx ⊢
      have hz4 := hb4.size
      have hR2 := ownsRow_below HRw.out hb4 (fun r hr => (HRw.out.lt r hr).2)
      obtain ⟨v5, w5, hrun, hR5, hg5, _, hat5⟩ := run_append_own_at (P := Try.prog) (w4.alloc (.cells #[.int .i64 u.k, .int .i64 u.n, .string u.s, .slice A4 u.l.length c4] 24)) W2.heap.size 22 22 24 i0 _ 4 56 Try.underlying22 hi hz0 hz1 hz2' rfl (by decide) (.slice A3 i c3) i _ (hR2.alloc _)
        ⟨w4.heap.size, 0, none⟩ 1 1 [.int .i64 u.k, .int .i64 u.n, .string u.s, .slice A4 u.l.length c4] rfl (cells4_new _ _ _ _ _ _) (one4 _ _ _ _ _ _) (by unfold maxLen; omega) (by omega) (by simp; omega)
      obtain ⟨A5, c5, rfl, _, _⟩ := ownsRow_form hR5
      have HS := Lib.hid (show TRow w5 W2.heap.size (fun b => W2.heap.size ≤ b) (.slice A5 (i + 1) c5) (l.take (i + 1)) from by
        rw [take_snoc_of HU.out]
        refine TRow.snoc (w := w4) (H := Fr wr w4) (HV.out.keep fun p hp => hb4.cell (HGG.out _ hp).1) (fun b hb => ⟨Nat.lt_of_lt_of_le (HGG.out b hb).1 hz4, (HGG.out b hb).2⟩) hx (fun b hb => ⟨hb.2, Nat.le_trans HB.out.size hb.1, fun e => ?_⟩) hg5 (by rw [HK.out]; exact hR5) hat5
        have := (HRw.out.lt b e).2
        exact absurd hb.1 (by omega))
      have HB5 := Lib.hid (show Below W2.heap.size W2 w5 from (ballocs (bnext HB.out hb4) _).grown hg5 (by simp; omega) (fun r hr => (hR2.lt r hr).1))
      have HRUN := Lib.hid hrun
      clear hx hb4 ok4 hl4 hrun hR5 hg5 hat5 hR2 hz4
      go_wp2_with (first
        | (at_builtin; refine wpList_append_run (o := ⟨some 20, _, _, _, _, _⟩) (.tmp 12) (.tmp 19) 22 _ _ _ HRUN.out rfl rfl (by simp [Act.eval, Act.put]) (by simp [Act.eval, Act.put]) ?_)
        | fail)
      go_roundw
      case rel => exact ⟨i + 1, by omega, by go_num, HS.out, HB5.out⟩
      case measure => simp [intOf]; omega
    · obtain rfl : i = l.length := by omega
      rw [List.take_length] at hT
      obtain ⟨A9, c9, e9, hc1, hc2, hc3, hts⟩ := hT.slAt (F := Fr W2 wr) (fun b h1 h2 => ⟨h2, h1⟩) (fun b h1 h2 => ⟨h2, h1⟩)
      injection e9 with e91 e92 e93
      subst e91 e93
      have HTS := Lib.hid hts; have HC1 := Lib.hid hc1; have HC2 := Lib.hid hc2; have HC3 := Lib.hid hc3
      obtain ⟨r0, r1, r2, r3, s0, s1, s2, s3⟩ := HRr.out.four
      clear hT hts hc1 hc2 hc3
      go_wp2_with fail
      refine bodyPost_ret (v := .agg #[.int .i64 k, .int .i64 n, .string s, .slice A3 l.length c3]) (by simp [results, Try.results52, go_sem, r0, r1, r2, r3]) rfl ⟨_, rfl, ?_, ?_⟩
      · have ok := HO.out
        have hz2 := HZ2.out
        refine TAt.of (t := .mk k n s l) ⟨ok.wk, ok.wn, ok.ws, HC1.out, HC2.out, HC3.out⟩ ((HTS.out.keep fun p hp => ?_).mono fun b hb => ?_)
        · have h1 : p.block ≠ w.heap.size := by have := hp.1; omega
          have h2 : p.block ≠ w.heap.size + 1 := by have := hp.1; omega
          rw [cell_far _ _ _ _ h2, cell_far _ _ _ _ h2, cell_far _ _ _ _ h2, cell_far _ _ _ _ h2, cell_far _ _ _ _ h1]
        · have h1 := hb.1
          have h2 := hb.2
          exact ⟨by omega, by simpa [World.setCell] using h2⟩
      · exact (((((bnext HB2.out HB.out).setCell (p := ⟨w.heap.size, 3, none⟩) (Nat.le_refl _) _).setCell (p := ⟨w.heap.size + 1, 0, none⟩) (Nat.le_succ _) _).setCell (p := ⟨w.heap.size + 1, 1, none⟩) (Nat.le_succ _) _).setCell (p := ⟨w.heap.size + 1, 2, none⟩) (Nat.le_succ _) _).setCell (p := ⟨w.heap.size + 1, 3, none⟩) (Nat.le_succ _) _

/-! ### Rows of bindings that read -/
/-- Bindings and the cells that they lie in, their terms in blocks G. -/
inductive BVr (w : World) (G : Nat → Prop) : List Bnd → List Value → Prop
  | nil : BVr w G [] []
  | cons {p : Bnd} {k m : Int} {s : ByteArray} {A : Option Addr} {len c : Nat} {l : List Bnd} {xs : List Value} : TAt w G p.2 (.agg #[.int .i64 k, .int .i64 m, .string s, .slice A len c]) → BVr w G l xs →
      BVr w G (p :: l) (.int .i64 p.1 :: .int .i64 k :: .int .i64 m :: .string s :: .slice A len c :: xs)
section
variable {w w' : World} {F G G' : Nat → Prop} {l l' : List Bnd} {xs xs' : List Value} {B : Nat} {v : Value}
theorem BVr.len (h : BVr w G l xs) : xs.length = l.length * 5 := by
  induction h with
  | nil => rfl
  | cons _ _ ih => simp [ih]; omega
theorem BVr.one (h : BVr w G l xs) : ∀ u ∈ xs, u.oneCell' = true := by
  induction h with
  | nil => simp
  | cons _ _ ih =>
    intro u hu
    simp only [List.mem_cons] at hu
    rcases hu with rfl | rfl | rfl | rfl | rfl | hu
    · rfl
    · rfl
    · rfl
    · rfl
    · rfl
    · exact ih u hu
theorem BVr.mono (h : BVr w G l xs) (hG : ∀ b, G b → G' b) : BVr w G' l xs := by
  induction h with
  | nil => exact .nil
  | cons h1 _ ih => exact .cons (h1.mono hG) ih
theorem BVr.keep (h : BVr w G l xs) (hk : ∀ p : Addr, G p.block → w'.cell? p = w.cell? p) : BVr w' G l xs := by
  induction h with
  | nil => exact .nil
  | cons h1 _ ih => exact .cons (h1.keep hk) ih
theorem BVr.append (h : BVr w G l xs) (h' : BVr w G l' xs') : BVr w G (l ++ l') (xs ++ xs') := by
  induction h with
  | nil => exact h'
  | cons h1 _ ih => exact .cons h1 ih
theorem BVr.take (h : BVr w G l xs) (k : Nat) : BVr w G (l.take k) (xs.take (k * 5)) := by
  induction h generalizing k with
  | nil => simp; exact .nil
  | cons h1 _ ih =>
    cases k with
    | zero => simp; exact .nil
    | succ k =>
      rw [show (k + 1) * 5 = k * 5 + 1 + 1 + 1 + 1 + 1 by omega]
      exact .cons h1 (ih k)
theorem BVr.drop (h : BVr w G l xs) (k : Nat) : BVr w G (l.drop k) (xs.drop (k * 5)) := by
  induction h generalizing k with
  | nil => simp; exact .nil
  | cons h1 h2 ih =>
    cases k with
    | zero => simp; exact .cons h1 h2
    | succ k =>
      rw [show (k + 1) * 5 = k * 5 + 1 + 1 + 1 + 1 + 1 by omega]
      exact ih k
theorem BVr.at_ (h : BVr w G l xs) {i : Nat} {p : Bnd} (hp : l[i]? = some p) : ∃ (k m : Int) (s : ByteArray) (A : Option Addr) (len c : Nat), xs[i * 5]? = some (.int .i64 p.1) ∧ xs[i * 5 + 1]? = some (.int .i64 k) ∧ xs[i * 5 + 2]? = some (.int .i64 m) ∧ xs[i * 5 + 3]? = some (.string s) ∧ xs[i * 5 + 4]? = some (.slice A len c) ∧
    TAt w G p.2 (.agg #[.int .i64 k, .int .i64 m, .string s, .slice A len c]) := by
  induction h generalizing i with
  | nil => simp at hp
  | cons h1 _ ih =>
    cases i with
    | zero =>
      simp at hp
      subst hp
      exact ⟨_, _, _, _, _, _, rfl, rfl, rfl, rfl, rfl, h1⟩
    | succ i =>
      rw [show (i + 1) * 5 = i * 5 + 1 + 1 + 1 + 1 + 1 by omega]
      exact ih hp
/-- The cells of a slice of bindings that reads. -/
theorem BsAt.reads5 {A : Option Addr} (h : BsAt w F A l) (hF : ∀ b, F b → b < B) : ∃ xs, BVr w F l xs ∧ Reads w B 5 A l.length xs := by
  have key : ∀ k, k ≤ l.length → ∃ xs, BVr w F (l.take k) xs ∧ ∀ j u, xs[j]? = some u → ∃ b o, A = some ⟨b, o, none⟩ ∧ F b ∧ w.cell? ⟨b, o + j, none⟩ = some u := fun k => by
    induction k with
    | zero => exact fun _ => ⟨[], by rw [List.take_zero]; exact .nil, fun j u hu => by simp at hu⟩
    | succ k ih =>
      intro hk
      obtain ⟨xs, h1, h2⟩ := ih (by omega)
      obtain ⟨p, hp⟩ : ∃ p, l[k]? = some p := ⟨_, List.getElem?_eq_getElem (by omega)⟩
      obtain ⟨b, o, A', c', hA, hb, d0, d1, d2, d3, d4, hta⟩ := h.at_ hp
      have hlen : xs.length = k * 5 := by rw [h1.len, List.length_take]; omega
      refine ⟨xs ++ [.int .i64 p.1, .int .i64 p.2.k, .int .i64 p.2.n, .string p.2.s, .slice A' p.2.l.length c'], by rw [take_snoc_of hp]; exact h1.append (.cons hta .nil), fun j u hu => ?_⟩
      rcases Nat.lt_or_ge j xs.length with hj | hj
      · rw [List.getElem?_append_left hj] at hu
        exact h2 j u hu
      · rw [List.getElem?_append_right hj] at hu
        refine ⟨b, o, hA, hb, ?_⟩
        obtain ⟨m, rfl⟩ : ∃ m, j = k * 5 + m := ⟨j - k * 5, by omega⟩
        rw [hlen, Nat.add_sub_cancel_left] at hu
        match m, hu with
        | 0, hu => simp at hu; subst hu; simpa using d0
        | 1, hu => simp at hu; subst hu; simpa [Nat.add_assoc] using d1
        | 2, hu => simp at hu; subst hu; simpa [Nat.add_assoc] using d2
        | 3, hu => simp at hu; subst hu; simpa [Nat.add_assoc] using d3
        | 4, hu => simp at hu; subst hu; simpa [Nat.add_assoc] using d4
        | m + 5, hu => simp at hu
  obtain ⟨xs, h1, h2⟩ := key l.length (Nat.le_refl _)
  rw [List.take_length] at h1
  refine ⟨xs, h1, h1.len, fun hn => ?_⟩
  have hl := h1.len
  obtain ⟨u, hu⟩ : ∃ u, xs[0]? = some u := ⟨_, List.getElem?_eq_getElem (by omega)⟩
  obtain ⟨b, o, hA, hb, _⟩ := h2 0 u hu
  refine ⟨⟨b, o, none⟩, hA, hF b hb, fun j u hu => ?_⟩
  obtain ⟨b', o', hA', _, hc⟩ := h2 j u hu
  rw [hA] at hA'
  injection hA' with hA'
  injection hA' with e1 e2
  subst e1 e2
  rw [add_plain']
  exact hc
theorem bs_of_row {A : Option Addr} {c : Nat} (h1 : BVr w G l xs) (hG : ∀ b, G b → b < w.heap.size) (h3 : w.ownsRow B 35 5 (.slice A l.length c) l.length xs) : BsAt w (· < w.heap.size) A l := by
  intro i p hp
  have hi := (List.getElem?_eq_some_iff.1 hp).1
  obtain ⟨k, m, s, A1, len, c1, x0, x1, x2, x3, x4, ht⟩ := h1.at_ hp
  obtain ⟨g, cap, he, hg1, hg2⟩ := h3.form (by omega)
  have hA : A = some ⟨g, 0, none⟩ := by injection he
  subst hA
  have hc := h3.cells (g := g) rfl
  have q0 := hc _ _ x0
  have q1 := hc _ _ x1
  have q2 := hc _ _ x2
  have q3 := hc _ _ x3
  have q4 := hc _ _ x4
  rw [add_plain'] at q0 q1 q2 q3 q4
  exact ⟨_, ⟨g, 0, _, _, _, _, rfl, hg2, rfl, q0, by simpa [Nat.add_assoc] using q1, by simpa [Nat.add_assoc] using q2, by simpa [Nat.add_assoc] using q3, by simpa [Nat.add_assoc] using q4⟩, ht.mono hG⟩
end
/-- A slice of bindings that reads, and its cap. -/
def BcAt (w : World) (A : Option Addr) (c : Nat) (l : List Bnd) : Prop := BsAt w (· < w.heap.size) A l ∧ l.length ≤ c ∧ c ≤ maxLen
theorem BcAt.later {w w' : World} {A : Option Addr} {c : Nat} {l : List Bnd} (h : BcAt w A c l) (hb : Below w.heap.size w w') : BcAt w' A c l := ⟨h.1.later hb, h.2⟩
theorem reads_take5 {w : World} {B n : Nat} {A : Option Addr} {xs : List Value} (h : Reads w B 5 A n xs) {k : Nat} (hk : k ≤ n) : Reads w B 5 A k (xs.take (k * 5)) := by
  refine ⟨by rw [List.length_take, h.1]; omega, fun hn => ?_⟩
  obtain ⟨ad, e, hb, hc⟩ := h.2 (by omega)
  refine ⟨ad, e, hb, fun j u hu => hc j u ?_⟩
  rw [List.getElem?_take] at hu
  split at hu
  · exact hu
  · cases hu
/-- append(append(append([]api.Bind{}, l[:a]...), {n, t}), l[a:]...): the runs, told ahead. -/
theorem bind_runs (w : World) (l : List Bnd) (A : Option Addr) (c a : Nat) (n : Int) (t : Tm) (A1 : Option Addr) (c1 : Nat) (h : BcAt w A c l) (ha : a ≤ l.length) (hl : l.length ≤ 65536) (ht : TA w t (.agg #[.int .i64 t.k, .int .i64 t.n, .string t.s, .slice A1 t.l.length c1])) :
    ∃ B1 d1 w1 B2 d2 w2 B3 d3 w3, (Builtin.append_ #[25, 25] 25 #[.slice (some ⟨w.heap.size, 0, none⟩) 0 0, .slice A a c]).run Try.prog (w.alloc (.cells #[] 35)) = .ok (.slice B1 a d1) w1 ∧ Below w.heap.size w w1 ∧
      (Builtin.append_ #[25, 25] 25 #[.slice B1 a d1, .slice (some ⟨w1.heap.size, 0, none⟩) 1 1]).run Try.prog (w1.alloc (.cells #[.int .i64 n, .int .i64 t.k, .int .i64 t.n, .string t.s, .slice A1 t.l.length c1] 35)) = .ok (.slice B2 (a + 1) d2) w2 ∧ Below w.heap.size w w2 ∧
      (Builtin.append_ #[25, 25] 25 #[.slice B2 (a + 1) d2, .slice (if c = a then A else A.map (·.add (a * 5))) (l.length - a) (c - a)]).run Try.prog w2 = .ok (.slice B3 (l.length + 1) d3) w3 ∧ Below w.heap.size w w3 ∧ BcAt w3 B3 d3 (l.take a ++ [(n, t)] ++ l.drop a) := by
  obtain ⟨hr0, hc, hm⟩ := h
  obtain ⟨xs, hx, hr⟩ := hr0.reads5 (B := w.heap.size) (fun b h => h)
  have hxl := hx.len
  obtain ⟨i0, hi, hz0, hz1, hz2⟩ := info_parts infoB
  have hb0 : Below w.heap.size w (w.alloc (.cells #[] 35)) := (Below.refl _ _).alloc (Nat.le_refl _) _
  have own0 : (w.alloc (.cells #[] 35)).ownsRow w.heap.size 35 5 (.slice (some ⟨w.heap.size, 0, none⟩) 0 0) 0 [] := World.ownsRow_lit (base := w.heap.size) (e := 35) (size := 5) w #[] 0 (Nat.le_refl _) (by simp [maxLen]) rfl
  obtain ⟨v1, w1, run1, o1, gr1, at1⟩ := run_append_any (P := Try.prog) _ w.heap.size 25 25 35 i0 _ 5 64 Try.underlying25 hi hz0 hz1 hz2 rfl (by decide) _ 0 _ own0 w.heap.size A a c _ ((reads_take5 hr ha).below hb0) (fun u hu => hx.one u (List.mem_of_mem_take hu)) (by unfold maxLen; omega) (by omega) hb0.size
  simp only [Nat.zero_add, List.nil_append] at o1
  have b1 : Below w.heap.size w w1 := hb0.grown gr1 hb0.size (fun r hr => (own0.lt r hr).1)
  obtain ⟨B1, d1, rfl, _, _⟩ := ownsRow_form o1
  have hb1 : Below w.heap.size w (w1.alloc (.cells #[.int .i64 n, .int .i64 t.k, .int .i64 t.n, .string t.s, .slice A1 t.l.length c1] 35)) := b1.alloc b1.size _
  have own1 := o1.alloc (.cells #[.int .i64 n, .int .i64 t.k, .int .i64 t.n, .string t.s, .slice A1 t.l.length c1] 35)
  have hr1 : Reads (w1.alloc (.cells #[.int .i64 n, .int .i64 t.k, .int .i64 t.n, .string t.s, .slice A1 t.l.length c1] 35)) (w1.heap.size + 1) 5 (some ⟨w1.heap.size, 0, none⟩) 1 [.int .i64 n, .int .i64 t.k, .int .i64 t.n, .string t.s, .slice A1 t.l.length c1] := ⟨rfl, fun _ => ⟨_, rfl, by simp, fun j u hu => by
    rw [add_plain']
    have := (Blk.new w1 35 #[.int .i64 n, .int .i64 t.k, .int .i64 t.n, .string t.s, .slice A1 t.l.length c1]).cell (0 + j)
    rw [this]
    simpa using hu⟩⟩
  obtain ⟨v2, w2, run2, o2, gr2, at2⟩ := run_append_any (P := Try.prog) _ w.heap.size 25 25 35 i0 _ 5 64 Try.underlying25 hi hz0 hz1 hz2 rfl (by decide) _ a _ own1 _ _ 1 1 _ hr1 (by simp [Value.oneCell']) (by unfold maxLen; omega) (by omega) hb1.size
  have b2 : Below w.heap.size w w2 := hb1.grown gr2 hb1.size (fun r hr => (own1.lt r hr).1)
  obtain ⟨B2, d2, rfl, _, _⟩ := ownsRow_form o2
  have hcut := (hr.below b2).cut (k := a) (cap := c) ha hc
  obtain ⟨v3, w3, run3, o3, gr3, at3⟩ := run_append_any (P := Try.prog) _ w.heap.size 25 25 35 i0 _ 5 64 Try.underlying25 hi hz0 hz1 hz2 rfl (by decide) _ (a + 1) _ o2 w.heap.size _ (l.length - a) (c - a) _ hcut (fun u hu => hx.one u (List.mem_of_mem_drop hu)) (by unfold maxLen; omega) (by omega) b2.size
  have b3 : Below w.heap.size w w3 := b2.grown gr3 b2.size (fun r hr => (o2.lt r hr).1)
  obtain ⟨B3, d3, rfl, hc3, hm3⟩ := ownsRow_form o3
  have e1 : a + 1 + (l.length - a) = l.length + 1 := by omega
  have e2 : (l.take a ++ [(n, t)] ++ l.drop a).length = l.length + 1 := by simp; omega
  rw [e1] at run3 o3 hc3
  refine ⟨B1, d1, w1, B2, d2, w2, B3, d3, w3, run1, b1, run2, b2, run3, b3, ?_, ?_, hm3⟩
  · have hv : BVr w3 (· < w.heap.size) (l.take a ++ [(n, t)] ++ l.drop a) (xs.take (a * 5) ++ [.int .i64 n, .int .i64 t.k, .int .i64 t.n, .string t.s, .slice A1 t.l.length c1] ++ xs.drop (a * 5)) :=
      (((hx.take a).append (.cons (p := (n, t)) ht .nil)).append (hx.drop a)).keep fun p hp => b3.cell hp
    rw [← e2] at o3
    exact bs_of_row hv (fun b hb => Nat.lt_of_lt_of_le hb b3.size) o3
  · rw [e2]; exact hc3
set_option maxRecDepth 100000 in
set_option maxHeartbeats 8000000 in
theorem bind_any (l : List Bnd) (n : Int) (t : Tm) (A : Option Addr) (c : Nat) (vt : Value) (w : World) (h : BcAt w A c l) (hl : l.length ≤ 65536) (ht : TA w t vt) :
    Calls Try.prog 66 #[.slice A l.length c, .int .i64 n, vt] w fun e w' => ∃ A' c', e = .returned (.slice A' (insB l n t).length c') ∧ BcAt w' A' c' (insB l n t) ∧ Below w.heap.size w w' := by
  have ht0 := ht
  obtain ⟨A1, c1, rfl, okt, _⟩ := ht.inv
  unfold tv at ht0 ⊢
  obtain ⟨W1, hW1⟩ : ∃ W1, w.alloc (.cells #[.int .i64 t.k, .int .i64 t.n, .string t.s, .slice A1 t.l.length c1] 24) = W1 := ⟨_, rfl⟩
  have hb1 : Below w.heap.size w W1 := by rw [← hW1]; exact ballocs (Below.refl _ _) _
  have hg : Blk W1 w.heap.size 24 #[.int .i64 t.k, .int .i64 t.n, .string t.s, .slice A1 t.l.length c1] := by rw [← hW1]; exact Blk.new _ _ _
  have HT := Lib.hid (ht0.later hb1)
  have HG := Lib.hid hg
  have HB1 := Lib.hid hb1
  have HI := Lib.hid (h.later hb1)
  have HW1 := Lib.hid hW1
  obtain ⟨p0, p1, p2, p3, _, _, _, _⟩ := hg.four
  obtain ⟨_, hlc, hcm⟩ := h
  unfold maxLen at hcm
  clear ht ht0 okt hb1 hg hW1
  go_enter Try.func66, Try.ntmps66
  go_wp2_with fail
  rw [HW1.out]
  go_loopw [7] (fun x wr => ∃ a : Nat, a ≤ l.length ∧ x = .int .i64 (a : Int) ∧ (∀ i y, i < a → l[i]? = some y → y.1 < n) ∧ W1 = wr) (fun x _ => l.length - (intOf x).toNat)
  case atStart => exact ⟨0, Nat.zero_le _, rfl, fun i y hi => by omega, rfl⟩
  case round =>
    obtain ⟨a, ha, rfl, hlow, rfl⟩ := hrel
    have HLOW := Lib.hid hlow
    clear hlow
    by_cases hlt : a < l.length
    · obtain ⟨y, hy⟩ : ∃ y, l[a]? = some y := ⟨_, List.getElem?_eq_getElem hlt⟩
      obtain ⟨b, o, A', c', rfl, _, d0, _⟩ := HI.out.1.at_ hy
      obtain ⟨yn, hyn⟩ : ∃ z, y.1 = z := ⟨_, rfl⟩
      rw [hyn] at d0
      have HY := Lib.hid hy
      have HYN := Lib.hid hyn
      clear hy hyn
      by_cases h1 : yn < n
      · have HL := Lib.hid (show ∀ i x, i < a + 1 → l[i]? = some x → x.1 < n from fun i x hi hx => by
          by_cases e : i = a
          · subst e; rw [HY.out] at hx; injection hx with hx; rw [← hx, HYN.out]; omega
          · exact HLOW.out i x (by omega) hx)
        go_wp2_with fail
        go_roundw
        case rel => exact ⟨a + 1, by omega, by go_num, HL.out, by first | rfl | trivial⟩
        case measure => simp [intOf]; omega
      · have HE := Lib.hid (insB_at (t := t) HLOW.out (fun x hx => by rw [HY.out] at hx; injection hx with hx; rw [← hx, HYN.out]; omega))
        have hca : ¬ c = a := by omega
        obtain ⟨B1, d1, w1, B2, d2, w2, B3, d3, w3, run1, b1, run2, b2, run3, b3, hi3⟩ := bind_runs W1 l (some ⟨b, o, none⟩) c a n t A1 c1 HI.out (by first | exact Nat.le_refl _ | omega) (by first | exact hl | simp) HT.out
        rw [if_neg hca] at run3; simp only [Option.map_some, add_plain'] at run3
        have R1 := Lib.hid run1; have R2 := Lib.hid run2; have R3 := Lib.hid run3; have HB3 := Lib.hid (bnext HB1.out b3); have I3 := Lib.hid hi3
        obtain ⟨p0, p1, p2, p3, _, _, _, _⟩ := (HG.out.below b1 HG.out.lt).four
        have hlen : (insB l n t).length = l.length + 1 := insB_len _ _ _
        have HLEN := Lib.hid hlen
        clear run1 run2 run3 b3 hi3 b1 b2 hlen
        go_wp2_with (first
          | (at_builtin; refine wpList_append_run (o := ⟨some 28, _, _, _, _, _⟩) (.tmp 24) (.tmp 27) 25 _ _ _ R1.out rfl rfl (by simp [Act.eval, Act.put]) (by simp [Act.eval, Act.put]) ?_)
          | (at_builtin; refine wpList_append_run (o := ⟨some 34, _, _, _, _, _⟩) (.tmp 29) (.tmp 33) 25 _ _ _ R2.out rfl rfl (by simp [Act.eval, Act.put]) (by simp [Act.eval, Act.put]) ?_)
          | (at_builtin; refine wpList_append_run (o := ⟨some 39, _, _, _, _, _⟩) (.tmp 35) (.tmp 38) 25 _ _ _ R3.out rfl rfl (by simp [Act.eval, Act.put]) (by simp [Act.eval, Act.put]) ?_)
          | fail)
        go_ret
        exact ⟨B3, d3, by rw [HLEN.out]; rfl, by rw [HE.out]; exact I3.out, HB3.out⟩
    · obtain rfl : a = l.length := by omega
      have HE := Lib.hid (insB_at (t := t) HLOW.out (fun x hx => by rw [List.getElem?_eq_none (Nat.le_refl _)] at hx; cases hx))
      clear hlt
      by_cases hnil : l = []
      · subst hnil
        simp only [List.length_nil] at *
        rcases A with _ | ad
        · obtain ⟨B1, d1, w1, B2, d2, w2, B3, d3, w3, run1, b1, run2, b2, run3, b3, hi3⟩ := bind_runs W1 [] (none) c 0 n t A1 c1 HI.out (by first | exact Nat.le_refl _ | omega) (by first | exact hl | simp) HT.out
          simp only [Option.map_none, ite_self, Nat.sub_zero, Nat.zero_add, Nat.sub_self, List.length_nil] at run1 run2 run3
          have R1 := Lib.hid run1; have R2 := Lib.hid run2; have R3 := Lib.hid run3; have HB3 := Lib.hid (bnext HB1.out b3); have I3 := Lib.hid hi3
          obtain ⟨p0, p1, p2, p3, _, _, _, _⟩ := (HG.out.below b1 HG.out.lt).four
          have hlen : (insB [] n t).length = [].length + 1 := insB_len _ _ _
          have HLEN := Lib.hid hlen
          clear run1 run2 run3 b3 hi3 b1 b2 hlen
          go_wp2_with (first
            | (at_builtin; refine wpList_append_run (o := ⟨some 28, _, _, _, _, _⟩) (.tmp 24) (.tmp 27) 25 _ _ _ R1.out rfl rfl (by simp [Act.eval, Act.put]) (by simp [Act.eval, Act.put]) ?_)
            | (at_builtin; refine wpList_append_run (o := ⟨some 34, _, _, _, _, _⟩) (.tmp 29) (.tmp 33) 25 _ _ _ R2.out rfl rfl (by simp [Act.eval, Act.put]) (by simp [Act.eval, Act.put]) ?_)
            | (at_builtin; refine wpList_append_run (o := ⟨some 39, _, _, _, _, _⟩) (.tmp 35) (.tmp 38) 25 _ _ _ R3.out rfl rfl (by simp [Act.eval, Act.put]) (by simp [Act.eval, Act.put]) ?_)
            | fail)
          go_ret
          exact ⟨B3, d3, by rw [HLEN.out]; rfl, by rw [HE.out]; exact I3.out, HB3.out⟩
        · by_cases hca : c = 0
          · subst hca
            obtain ⟨B1, d1, w1, B2, d2, w2, B3, d3, w3, run1, b1, run2, b2, run3, b3, hi3⟩ := bind_runs W1 [] ((some ad)) 0 0 n t A1 c1 HI.out (by first | exact Nat.le_refl _ | omega) (by first | exact hl | simp) HT.out
            simp only [if_pos, Nat.sub_zero, Nat.zero_add, Nat.sub_self, List.length_nil] at run1 run2 run3
            have R1 := Lib.hid run1; have R2 := Lib.hid run2; have R3 := Lib.hid run3; have HB3 := Lib.hid (bnext HB1.out b3); have I3 := Lib.hid hi3
            obtain ⟨p0, p1, p2, p3, _, _, _, _⟩ := (HG.out.below b1 HG.out.lt).four
            have hlen : (insB [] n t).length = [].length + 1 := insB_len _ _ _
            have HLEN := Lib.hid hlen
            clear run1 run2 run3 b3 hi3 b1 b2 hlen
            go_wp2_with (first
              | (at_builtin; refine wpList_append_run (o := ⟨some 28, _, _, _, _, _⟩) (.tmp 24) (.tmp 27) 25 _ _ _ R1.out rfl rfl (by simp [Act.eval, Act.put]) (by simp [Act.eval, Act.put]) ?_)
              | (at_builtin; refine wpList_append_run (o := ⟨some 34, _, _, _, _, _⟩) (.tmp 29) (.tmp 33) 25 _ _ _ R2.out rfl rfl (by simp [Act.eval, Act.put]) (by simp [Act.eval, Act.put]) ?_)
              | (at_builtin; refine wpList_append_run (o := ⟨some 39, _, _, _, _, _⟩) (.tmp 35) (.tmp 38) 25 _ _ _ R3.out rfl rfl (by simp [Act.eval, Act.put]) (by simp [Act.eval, Act.put, Addr.add]) ?_)
              | fail)
            go_ret
            exact ⟨B3, d3, by rw [HLEN.out]; rfl, by rw [HE.out]; exact I3.out, HB3.out⟩
          · obtain ⟨B1, d1, w1, B2, d2, w2, B3, d3, w3, run1, b1, run2, b2, run3, b3, hi3⟩ := bind_runs W1 [] ((some ad)) c 0 n t A1 c1 HI.out (by first | exact Nat.le_refl _ | omega) (by first | exact hl | simp) HT.out
            rw [if_neg hca] at run3; simp only [Option.map_some, Nat.zero_mul, Nat.sub_zero, Nat.zero_add, Nat.sub_self, List.length_nil] at run1 run2 run3
            have R1 := Lib.hid run1; have R2 := Lib.hid run2; have R3 := Lib.hid run3; have HB3 := Lib.hid (bnext HB1.out b3); have I3 := Lib.hid hi3
            obtain ⟨p0, p1, p2, p3, _, _, _, _⟩ := (HG.out.below b1 HG.out.lt).four
            have hlen : (insB [] n t).length = [].length + 1 := insB_len _ _ _
            have HLEN := Lib.hid hlen
            clear run1 run2 run3 b3 hi3 b1 b2 hlen
            go_wp2_with (first
              | (at_builtin; refine wpList_append_run (o := ⟨some 28, _, _, _, _, _⟩) (.tmp 24) (.tmp 27) 25 _ _ _ R1.out rfl rfl (by simp [Act.eval, Act.put]) (by simp [Act.eval, Act.put]) ?_)
              | (at_builtin; refine wpList_append_run (o := ⟨some 34, _, _, _, _, _⟩) (.tmp 29) (.tmp 33) 25 _ _ _ R2.out rfl rfl (by simp [Act.eval, Act.put]) (by simp [Act.eval, Act.put]) ?_)
              | (at_builtin; refine wpList_append_run (o := ⟨some 39, _, _, _, _, _⟩) (.tmp 35) (.tmp 38) 25 _ _ _ R3.out rfl rfl (by simp [Act.eval, Act.put]) (by simp [Act.eval, Act.put, Addr.add]) ?_)
              | fail)
            go_ret
            exact ⟨B3, d3, by rw [HLEN.out]; rfl, by rw [HE.out]; exact I3.out, HB3.out⟩
      · obtain ⟨y, hy⟩ : ∃ y, l[0]? = some y := ⟨_, List.getElem?_eq_getElem (List.length_pos_iff.2 hnil)⟩
        obtain ⟨b, o, A', c', rfl, _⟩ := HI.out.1.at_ hy
        clear hy hnil
        by_cases hca : c = l.length
        · subst hca
          obtain ⟨B1, d1, w1, B2, d2, w2, B3, d3, w3, run1, b1, run2, b2, run3, b3, hi3⟩ := bind_runs W1 l ((some ⟨b, o, none⟩)) l.length l.length n t A1 c1 HI.out (by first | exact Nat.le_refl _ | omega) (by first | exact hl | simp) HT.out
          rw [if_pos rfl] at run3
          have R1 := Lib.hid run1; have R2 := Lib.hid run2; have R3 := Lib.hid run3; have HB3 := Lib.hid (bnext HB1.out b3); have I3 := Lib.hid hi3
          obtain ⟨p0, p1, p2, p3, _, _, _, _⟩ := (HG.out.below b1 HG.out.lt).four
          have hlen : (insB l n t).length = l.length + 1 := insB_len _ _ _
          have HLEN := Lib.hid hlen
          clear run1 run2 run3 b3 hi3 b1 b2 hlen
          go_wp2_with (first
            | (at_builtin; refine wpList_append_run (o := ⟨some 28, _, _, _, _, _⟩) (.tmp 24) (.tmp 27) 25 _ _ _ R1.out rfl rfl (by simp [Act.eval, Act.put]) (by simp [Act.eval, Act.put]) ?_)
            | (at_builtin; refine wpList_append_run (o := ⟨some 34, _, _, _, _, _⟩) (.tmp 29) (.tmp 33) 25 _ _ _ R2.out rfl rfl (by simp [Act.eval, Act.put]) (by simp [Act.eval, Act.put]) ?_)
            | (at_builtin; refine wpList_append_run (o := ⟨some 39, _, _, _, _, _⟩) (.tmp 35) (.tmp 38) 25 _ _ _ R3.out rfl rfl (by simp [Act.eval, Act.put]) (by simp [Act.eval, Act.put]) ?_)
            | fail)
          go_ret
          exact ⟨B3, d3, by rw [HLEN.out]; rfl, by rw [HE.out]; exact I3.out, HB3.out⟩
        · obtain ⟨B1, d1, w1, B2, d2, w2, B3, d3, w3, run1, b1, run2, b2, run3, b3, hi3⟩ := bind_runs W1 l ((some ⟨b, o, none⟩)) c l.length n t A1 c1 HI.out (by first | exact Nat.le_refl _ | omega) (by first | exact hl | simp) HT.out
          rw [if_neg hca] at run3; simp only [Option.map_some, add_plain'] at run3
          have R1 := Lib.hid run1; have R2 := Lib.hid run2; have R3 := Lib.hid run3; have HB3 := Lib.hid (bnext HB1.out b3); have I3 := Lib.hid hi3
          obtain ⟨p0, p1, p2, p3, _, _, _, _⟩ := (HG.out.below b1 HG.out.lt).four
          have hlen : (insB l n t).length = l.length + 1 := insB_len _ _ _
          have HLEN := Lib.hid hlen
          clear run1 run2 run3 b3 hi3 b1 b2 hlen
          go_wp2_with (first
            | (at_builtin; refine wpList_append_run (o := ⟨some 28, _, _, _, _, _⟩) (.tmp 24) (.tmp 27) 25 _ _ _ R1.out rfl rfl (by simp [Act.eval, Act.put]) (by simp [Act.eval, Act.put]) ?_)
            | (at_builtin; refine wpList_append_run (o := ⟨some 34, _, _, _, _, _⟩) (.tmp 29) (.tmp 33) 25 _ _ _ R2.out rfl rfl (by simp [Act.eval, Act.put]) (by simp [Act.eval, Act.put]) ?_)
            | (at_builtin; refine wpList_append_run (o := ⟨some 39, _, _, _, _, _⟩) (.tmp 35) (.tmp 38) 25 _ _ _ R3.out rfl rfl (by simp [Act.eval, Act.put]) (by simp [Act.eval, Act.put]) ?_)
            | fail)
          go_ret
          exact ⟨B3, d3, by rw [HLEN.out]; rfl, by rw [HE.out]; exact I3.out, HB3.out⟩
end Go.Proofs.Ytlaplakaifmpeaa.Pt
