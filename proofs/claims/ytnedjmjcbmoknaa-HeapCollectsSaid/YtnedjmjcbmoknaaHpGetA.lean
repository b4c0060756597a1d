/- Get's build: where its variables lie, what it leaves. Get's build at words that are no boxes, by its contract. Get's build at boxed words, by its contract. (Printed by mk_hpgetb.py.) Get, by its contract. -/
import Derived.Test.YtnedjmjcbmoknaaHpParts
import Derived.Test.YtnedjmjcbmoknaaHeldZ
import Derived.Test.YtnedjmjcbmoknaaTmCopy
import Derived.WalkMore
import Derived.Laws.EntriesVeiled
namespace Go.Proofs.Ytnedjmjcbmoknaa.Hp
open Go.RowKit K At Wd Fl
set_option linter.unusedVariables false
set_option linter.unusedSimpArgs false
abbrev tz : Array Value := #[.int .i64 0, .int .i64 0, .string ⟨#[]⟩, .slice none 0 0]
theorem trow_keepF {F Q : Nat → Prop} {w w' : World} {B : Nat} {v : Value} {l : List Tm} (h : TRow w B Q v l) (hk : Keep F w w') (hB : ∀ b, B ≤ b → ¬ F b) (hQ : ∀ b, Q b → ¬ F b) : TRow w' B Q v l := by
  obtain ⟨G, vs, hV, hG, hR⟩ := h
  exact ⟨G, vs, hV.keep fun p hp => hk.cell (hG _ hp).1 (hQ _ (hG _ hp).2.1), fun b hb => ⟨Nat.lt_of_lt_of_le (hG b hb).1 hk.size, (hG b hb).2⟩, ownsRow_keep hR hk (fun r hr => hB r (hR.lt r hr).1)⟩
theorem u64_at {ws : List Int} {i : Nat} {u : Int} {v : Value} (hu : ws[i]? = some u) (hv : (u64s ws)[i]? = some v) : v = .int .u64 u := by
  unfold u64s at hv
  rw [List.getElem?_map, hu] at hv
  injection hv with hv
  exact hv.symm
/-- Where build's variables lie. -/
structure GE (w : World) (F : Nat → Prop) (gh g : Nat) (L : List ByteArray) (lim : Int) (H : List It) (gl gp gb : Nat) : Prop where
  hp : Hp w F gh g L lim H
  bp : Blk w gp 22 #[.pointer (some ⟨gh, 0, none⟩)]
  bb : Blk w gb 85 #[.func (.func 41) #[] #[.pointer (some ⟨gl, 0, none⟩), .pointer (some ⟨gp, 0, none⟩), .pointer (some ⟨gb, 0, none⟩)]]
  nl : ¬ F gl
  np : gp ≠ gl
  nb : gb ≠ gl
theorem GE.keep {w w' : World} {F : Nat → Prop} {gh g : Nat} {L : List ByteArray} {lim : Int} {H : List It} {gl gp gb : Nat} (h : GE w F gh g L lim H gl gp gb) (hk : Keep (fun b => b = gl) w w') : GE w' F gh g L lim H gl gp gb :=
  ⟨h.hp.keep hk (fun r hr e => h.nl (e ▸ hr)), h.bp.keep hk h.np, h.bb.keep hk h.nb, h.nl, h.np, h.nb⟩
theorem GE.below {w w' : World} {F : Nat → Prop} {gh g : Nat} {L : List ByteArray} {lim : Int} {H : List It} {gl gp gb : Nat} (h : GE w F gh g L lim H gl gp gb) (hb : Below w.heap.size w w') : GE w' F gh g L lim H gl gp gb := h.keep (Keep.new hb)
/-- What build leaves. -/
def BP (w : World) (gl : Nat) (t : Tm) (n : Int) (e : Ending) (w' : World) : Prop :=
  ∃ v, e = .returned v ∧ TAt w' (Fr w w') t v ∧ Blk w' gl 3 #[.int .i64 (n - wds t)] ∧ Keep (fun b => b = gl) w w'
theorem BP.form {w : World} {gl : Nat} {t : Tm} {n : Int} {e : Ending} {w' : World} (h : BP w gl t n e w') :
    ∃ k m s A1 l1 c1, e = .returned (.agg #[.int .i64 k, .int .i64 m, .string s, .slice A1 l1 c1]) ∧ Keep (fun b => b = gl) w w' ∧ TAt w' (Fr w w') t (.agg #[.int .i64 k, .int .i64 m, .string s, .slice A1 l1 c1]) ∧ Blk w' gl 3 #[.int .i64 (n - wds t)] := by
  obtain ⟨v, rfl, ht, hb, hk⟩ := h
  obtain ⟨A1, c1, rfl, _, _⟩ := ht.inv
  exact ⟨_, _, _, _, _, _, rfl, hk, ht, hb⟩
def BuildC (t : Tm) : Prop := ∀ (u n : Int) (w : World) (F : Nat → Prop) (gh g : Nat) (L : List ByteArray) (lim : Int) (H : List It) (gl gp gb : Nat), Rep H L t u → GE w F gh g L lim H gl gp gb → Blk w gl 3 #[.int .i64 n] → wds t ≤ n → n ≤ 65536 →
  Calls Try.prog 41 #[.int .u64 u, .pointer (some ⟨gl, 0, none⟩), .pointer (some ⟨gp, 0, none⟩), .pointer (some ⟨gb, 0, none⟩)] w (BP w gl t n)
theorem left_set {w wr : World} {gl G8 : Nat} {cs : Array Value} {n m : Int} (hg : Blk wr G8 28 cs) (hz : Blk wr w.heap.size 28 tz) (hl : Blk wr gl 3 #[.int .i64 n]) (hk : Keep (fun b => b = gl) w wr) (h8 : G8 ≠ gl) (hw : w.heap.size ≠ gl) :
    Blk (wr.setCell ⟨gl, 0, none⟩ (.int .i64 m)) G8 28 cs ∧ Blk (wr.setCell ⟨gl, 0, none⟩ (.int .i64 m)) w.heap.size 28 tz ∧ Blk (wr.setCell ⟨gl, 0, none⟩ (.int .i64 m)) gl 3 #[.int .i64 m] ∧ Keep (fun b => b = gl) w (wr.setCell ⟨gl, 0, none⟩ (.int .i64 m)) :=
  ⟨hg.far h8 _, hz.far hw _, by have := hl.set_ 0 (.int .i64 m); simpa using this, hk.setCell (p := ⟨gl, 0, none⟩) (.inl rfl) _⟩
/-- The term's own block is made behind it. -/
theorem left_new {w w2 : World} {gl : Nat} {cs : Array Value} {n m : Int} (hb : Below w.heap.size w w2) (hz : Blk w2 w.heap.size 28 tz) (hl : Blk w2 gl 3 #[.int .i64 n]) (hw : gl < w.heap.size) :
    Blk ((w2.setCell ⟨gl, 0, none⟩ (.int .i64 m)).alloc (.cells cs 28)) w2.heap.size 28 cs ∧ Blk ((w2.setCell ⟨gl, 0, none⟩ (.int .i64 m)).alloc (.cells cs 28)) w.heap.size 28 tz ∧ Blk ((w2.setCell ⟨gl, 0, none⟩ (.int .i64 m)).alloc (.cells cs 28)) gl 3 #[.int .i64 m] ∧ Keep (fun b => b = gl) w ((w2.setCell ⟨gl, 0, none⟩ (.int .i64 m)).alloc (.cells cs 28)) := by
  have e0 : (w2.setCell ⟨gl, 0, none⟩ (.int .i64 m)).heap.size = w2.heap.size := by simp [World.setCell]
  have h1 := Blk.new (w2.setCell ⟨gl, 0, none⟩ (.int .i64 m)) 28 cs
  rw [e0] at h1
  exact ⟨h1, (hz.far (by show w.heap.size ≠ gl; omega) _).alloc _, by have := (hl.set_ 0 (.int .i64 m)).alloc (.cells cs 28); simpa using this, ((Keep.new (F := fun b => b = gl) hb).setCell (p := ⟨gl, 0, none⟩) (.inl rfl) _).alloc _⟩
theorem g8_set {w wr : World} {gl G8 : Nat} {k x m : Int} {n : Int} {s : ByteArray} {v : Value} (hg : Blk wr G8 28 #[.int .i64 k, .int .i64 x, .string s, v]) (hz : Blk wr w.heap.size 28 tz) (hl : Blk wr gl 3 #[.int .i64 n]) (hk : Keep (fun b => b = gl) w wr) (h8 : G8 ≠ gl) (hw : w.heap.size < G8) :
    Blk (wr.setCell ⟨G8, 1, none⟩ (.int .i64 m)) G8 28 #[.int .i64 k, .int .i64 m, .string s, v] ∧ Blk (wr.setCell ⟨G8, 1, none⟩ (.int .i64 m)) w.heap.size 28 tz ∧ Blk (wr.setCell ⟨G8, 1, none⟩ (.int .i64 m)) gl 3 #[.int .i64 n] ∧ Keep (fun b => b = gl) w (wr.setCell ⟨G8, 1, none⟩ (.int .i64 m)) :=
  ⟨by have := hg.set_ 1 (.int .i64 m); simpa using this, hz.far (by show w.heap.size ≠ G8; omega) _, hl.far (fun e => h8 e.symm) _, hk.setCell (p := ⟨G8, 1, none⟩) (.inr (by show w.heap.size ≤ G8; omega)) _⟩
/-- In the loop: i words have been built. -/
def GI (w wr : World) (gl : Nat) (l : List Tm) (G8 : Nat) (k x n : Int) (i : Nat) : Prop :=
  ∃ row, Blk wr gl 3 #[.int .i64 (n - wdsL (l.take i))] ∧ Blk wr w.heap.size 28 tz ∧ Blk wr G8 28 #[.int .i64 k, .int .i64 x, .string ⟨#[]⟩, row] ∧ TRow wr (G8 + 1) (fun b => G8 + 1 ≤ b) row (l.take i) ∧ Keep (fun b => b = gl) w wr
section
variable {w wr w6 w3 : World} {gl G8 i : Nat} {A3 A5 A6 : Option Addr} {c3 c5 l6 c6 : Nat} {k x n k6 m6 : Int} {s6 : ByteArray} {l ts : List Tm} {t : Tm} {o : Obj}
theorem g_keeps (hgR : gl < w.heap.size) (hG8 : w.heap.size < G8) (hz : Blk wr w.heap.size 28 tz) (hg : Blk wr G8 28 #[.int .i64 k, .int .i64 x, .string ⟨#[]⟩, .slice A3 ts.length c3]) (hk : Keep (fun b => b = gl) w wr) (hk6 : Keep (fun b => b = gl) wr w6)
    (hg3 : (w6.alloc o).grownBy w3 (Value.slice A3 ts.length c3).ownBlock) (hrow : ∀ r, (Value.slice A3 ts.length c3).ownBlock = some r → G8 + 1 ≤ r ∧ r < wr.heap.size) (v : Value) :
    Blk (w3.setCell ⟨G8, 3, none⟩ v) w.heap.size 28 tz ∧ Blk (w3.setCell ⟨G8, 3, none⟩ v) G8 28 #[.int .i64 k, .int .i64 x, .string ⟨#[]⟩, v] ∧ Keep (fun b => b = gl) w (w3.setCell ⟨G8, 3, none⟩ v) ∧
      (∀ m, Blk w6 gl 3 #[.int .i64 m] → Blk (w3.setCell ⟨G8, 3, none⟩ v) gl 3 #[.int .i64 m]) := by
  have hl8 := hg.lt
  refine ⟨?_, ?_, ?_, fun m hr => ?_⟩
  · exact (((hz.keep hk6 (fun (e : w.heap.size = gl) => by omega)).alloc o).grown hg3 (fun e => by have := (hrow _ e.symm).1; omega)).far (by show w.heap.size ≠ G8; omega) _
  · have := (((hg.keep hk6 (fun (e : G8 = gl) => by omega)).alloc o).grown hg3 (fun e => by have := (hrow _ e.symm).1; omega)).set_ 3 v
    simpa using this
  · have h1 := ((hk.trans hk6 (fun _ _ h => h)).alloc o).grown hg3 (fun r hr => .inr (by have := (hrow r hr).1; omega))
    exact h1.setCell (p := ⟨G8, 3, none⟩) (.inr (by show w.heap.size ≤ G8; omega)) _
  · exact ((Blk.alloc hr o).grown hg3 (fun e => by have := (hrow _ e.symm).1; omega)).far (by show gl ≠ G8; omega) _
theorem GI.step {G : Nat → Prop} {vs : List Value} (hgR : gl < w.heap.size) (hG8 : w.heap.size < G8) (hts : ts = l.take i) (hu : l[i]? = some t)
    (hz : Blk wr w.heap.size 28 tz) (hg : Blk wr G8 28 #[.int .i64 k, .int .i64 x, .string ⟨#[]⟩, .slice A3 ts.length c3]) (hk : Keep (fun b => b = gl) w wr)
    (hV : TsVs wr G ts vs) (hG : ∀ b, G b → b < wr.heap.size ∧ G8 + 1 ≤ b ∧ (Value.slice A3 ts.length c3).ownBlock ≠ some b) (hRw : wr.ownsRow (G8 + 1) 28 4 (.slice A3 ts.length c3) ts.length (K.flat vs))
    (hk6 : Keep (fun b => b = gl) wr w6) (ht : TAt w6 (Fr wr w6) t (.agg #[.int .i64 k6, .int .i64 m6, .string s6, .slice A6 l6 c6])) (hr6 : Blk w6 gl 3 #[.int .i64 (n - wdsL (l.take i) - wds t)])
    (hg3 : (w6.alloc o).grownBy w3 (Value.slice A3 ts.length c3).ownBlock) (hR3 : w3.ownsRow (G8 + 1) 28 4 (.slice A5 (ts.length + 1) c5) (ts.length + 1) (K.flat vs ++ [.int .i64 k6, .int .i64 m6, .string s6, .slice A6 l6 c6]))
    (hat3 : (Value.slice A5 (ts.length + 1) c5).ownBlock = (Value.slice A3 ts.length c3).ownBlock ∨ (Value.slice A5 (ts.length + 1) c5).ownBlock = some (w6.alloc o).heap.size) :
    GI w (w3.setCell ⟨G8, 3, none⟩ (.slice A5 (ts.length + 1) c5)) gl l G8 k x n (i + 1) := by
  have hl8 := hg.lt
  obtain ⟨h1, h2, h3, h4⟩ := g_keeps hgR hG8 hz hg hk hk6 hg3 (fun r hr => hRw.lt r hr) (.slice A5 (ts.length + 1) c5)
  have h6 := hk6.size
  have hT := TRow.snoc (w := w6) (B := G8 + 1) (Q := fun b => G8 + 1 ≤ b) (hV.keep fun p hp => hk6.cell (hG _ hp).1 (fun (e : p.block = gl) => by have := (hG _ hp).2.1; omega)) (fun b hb => ⟨Nat.lt_of_lt_of_le (hG b hb).1 h6, (hG b hb).2⟩) ht (fun b hb => ⟨hb.2, by have := hb.1; omega, fun e => by
    have := (hRw.lt b e).2
    have := hb.1
    omega⟩) hg3 hR3 hat3
  have hks : Keep (fun y => y = G8) w3 (w3.setCell ⟨G8, 3, none⟩ (.slice A5 (ts.length + 1) c5)) := (Keep.refl (fun y => y = G8) w3).setCell (p := ⟨G8, 3, none⟩) (.inl rfl) _
  have e1 : l.take (i + 1) = ts ++ [t] := by rw [hts]; exact take_snoc_of hu
  have e2 : wdsL (l.take (i + 1)) = wdsL (l.take i) + wds t := wdsL_take_succ hu
  refine ⟨_, ?_, h1, h2, ?_, h3⟩
  · rw [e2, show n - (wdsL (l.take i) + wds t) = n - wdsL (l.take i) - wds t by omega]; exact h4 _ hr6
  · rw [e1]; exact trow_keepF hT hks (fun b h e => by omega) (fun b h e => by omega)
theorem GI.done {l : List Tm} {n0 : Int} (hgR : gl < w.heap.size) (hG8 : w.heap.size < G8) (hk1 : (Lit.int .i64 k).wf = true) (hn1 : (Lit.int .i64 x).wf = true) (hn0 : n0 = n + (wds (.mk k x ⟨#[]⟩ l) - wdsL l))
    (hr : Blk wr gl 3 #[.int .i64 (n - wdsL l)]) (hrow : TRow wr (G8 + 1) (fun b => G8 + 1 ≤ b) (.slice A3 l.length c3) l) (hk : Keep (fun b => b = gl) w wr) :
    BP w gl (.mk k x ⟨#[]⟩ l) n0 (.returned (.agg #[.int .i64 k, .int .i64 x, .string ⟨#[]⟩, .slice A3 l.length c3])) (put4 wr w.heap.size (.int .i64 k) (.int .i64 x) (.string ⟨#[]⟩) (.slice A3 l.length c3)) := by
  have hkp := put4_keep (Keep.refl (fun x => x = w.heap.size) wr) (g := w.heap.size) (.inl rfl) (.int .i64 k) (.int .i64 x) (.string ⟨#[]⟩) (.slice A3 l.length c3)
  have hr1 := trow_keepF hrow hkp (fun b h e => by omega) (fun b h e => by omega)
  obtain ⟨A', c', e, h1, h2, h3, hts⟩ := hr1.slAt (F := Fr w (put4 wr w.heap.size (.int .i64 k) (.int .i64 x) (.string ⟨#[]⟩) (.slice A3 l.length c3))) (fun b h1 h2 => ⟨by omega, h1⟩) (fun b h1 h2 => ⟨by omega, h1⟩)
  injection e with e1 e2 e3
  subst e1 e3
  have hne : gl ≠ w.heap.size := by omega
  refine ⟨_, rfl, TAt.of (t := .mk k x ⟨#[]⟩ l) ⟨hk1, hn1, by show (0 : Nat) ≤ _; exact Nat.zero_le _, h1, h2, h3⟩ hts, ?_, put4_keep hk (.inr (Nat.le_refl _)) _ _ _ _⟩
  rw [hn0, show n + (wds (.mk k x ⟨#[]⟩ l) - wdsL l) - wds (.mk k x ⟨#[]⟩ l) = n - wdsL l by omega]
  exact put4_far hr hne _ _ _ _
end
set_option maxRecDepth 100000 in
set_option maxHeartbeats 400000 in
theorem build_leaf (k x : Int) (hlf : leafK k) (u n : Int) (w : World) (F : Nat → Prop) (gh g : Nat) (L : List ByteArray) (lim : Int) (H : List It) (gl gp gb : Nat) (hE : GE w F gh g L lim H gl gp gb) (hL : Blk w gl 3 #[.int .i64 n]) (hu : U64 u) (hk : unK u = k) (hn : unN u = x) (hy : unE u = 0) (h1 : 1 ≤ n) (h6 : n ≤ 65536) : Calls Try.prog 41 #[.int .u64 u, .pointer (some ⟨gl, 0, none⟩), .pointer (some ⟨gp, 0, none⟩), .pointer (some ⟨gb, 0, none⟩)] w (BP w gl (.mk k x ⟨#[]⟩ []) n) := by
  obtain ⟨r1, r2, _⟩ := un_range hu
  rw [hk] at r1
  rw [hn] at r2
  have HWF := Lib.hid (And.intro r1 r2)
  unfold leafK at hlf
  have b2 : (k == 2) = false := by simp; omega
  have b7 : (k == 7) = false := by simp; omega
  have b5 : (k == 5) = false := by simp; omega
  have b9 : (k == 9) = false := by simp; omega
  have HWD := Lib.hid (show wds (.mk k x ⟨#[]⟩ []) = 1 from by rw [wds_mk]; unfold ownN; rw [if_neg (by simp only [Tm.k_mk]; omega)]; split <;> simp [wdsL_nil])
  clear hlf r1 r2
  have HUN := Lib.hid (fun w => unpack_as hu hk hn hy w)
  have hgl : gl < w.heap.size := hL.lt
  have hz := Blk.new w 28 #[.int .i64 0, .int .i64 0, .string ⟨#[]⟩, .slice none 0 0]
  have hb0 := ballocs (Below.refl w.heap.size w) (.cells #[.int .i64 0, .int .i64 0, .string ⟨#[]⟩, .slice none 0 0] 28)
  have HZ := Lib.hid hz; have HB0 := Lib.hid hb0; have HE := Lib.hid hE; have HL := Lib.hid hL
  clear hz hb0 hL hk hn hy hE
  go_enter Try.func41, Try.ntmps41
  go_wp2_with fail
  obtain ⟨w1, hw1⟩ : ∃ x, w.alloc (.cells #[.int .i64 0, .int .i64 0, .string ⟨#[]⟩, .slice none 0 0] 28) = x := ⟨_, rfl⟩
  rw [hw1] at HZ HB0 ⊢
  clear hw1
  go_step3
  go_wp2_with fail
  refine (HUN.out w1).mono ?_
  rintro e w2 ⟨rfl, hb2⟩
  have hr2 := (HL.out.below HB0.out HL.out.lt).below hb2 (Nat.lt_of_lt_of_le HL.out.lt HB0.out.size)
  have hz2 := HZ.out.below hb2 HZ.out.lt
  have hlt2 : gl < w2.heap.size := Blk.lt hr2
  have hlz2 : w.heap.size < w2.heap.size := hz2.lt
  have q0 : w2.cell? ⟨gl, 0, none⟩ = some (.int .i64 n) := by rw [hr2.cell]; rfl
  have f0 := hr2.frozen 0
  obtain ⟨z0, z1, z2, z3, y0, y1, y2, y3⟩ := hz2.four
  have hb02 := fbelow HB0.out hb2
  have hE2 := HE.out.below hb02
  have p0 : w2.cell? ⟨gp, 0, none⟩ = some (.pointer (some ⟨gh, 0, none⟩)) := by rw [hE2.bp.cell]; rfl
  have hgp2 : gp < w2.heap.size := hE2.bp.lt
  have hnp := HE.out.np
  have HB02 := Lib.hid hb02; have HR2 := Lib.hid hr2; have HZ2 := Lib.hid hz2
  clear hb2 hr2 hz2 hb02 hE2
  go_wp2_with fail
  have hz4 := (HZ2.out.far (p := ⟨gl, 0, none⟩) (by show w.heap.size ≠ gl; omega) (.int .i64 (n - 1)))
  have hl4 : Blk (w2.setCell ⟨gl, 0, none⟩ (.int .i64 (n - 1))) gl 3 #[.int .i64 (n - 1)] := by have := HR2.out.set_ 0 (.int .i64 (n - 1)); simpa using this
  have hk4 : Keep (fun b => b = gl) w (w2.setCell ⟨gl, 0, none⟩ (.int .i64 (n - 1))) := (Keep.new (F := fun b => b = gl) HB02.out).setCell (p := ⟨gl, 0, none⟩) (.inl rfl) _
  have hb4 := (put4_blk hz4 (.int .i64 k) (.int .i64 x) (.string ⟨#[]⟩) (.slice none 0 0)).alloc (.cells #[.int .i64 k, .int .i64 x, .string ⟨#[]⟩, .slice none 0 0] 28)
  obtain ⟨r0, r1, r2, r3, _, _, _, _⟩ := hb4.four
  have hkk := (put4_keep hk4 (g := w.heap.size) (.inr (Nat.le_refl _)) (.int .i64 k) (.int .i64 x) (.string ⟨#[]⟩) (.slice none 0 0)).alloc (.cells #[.int .i64 k, .int .i64 x, .string ⟨#[]⟩, .slice none 0 0] 28)
  have hll := (put4_far hl4 (g' := w.heap.size) (by omega) (.int .i64 k) (.int .i64 x) (.string ⟨#[]⟩) (.slice none 0 0)).alloc (.cells #[.int .i64 k, .int .i64 x, .string ⟨#[]⟩, .slice none 0 0] 28)
  unfold put4 at r0 r1 r2 r3 hkk hll
  rw [Exit.noGoto_ret]
  refine bodyPost_ret (v := .agg #[.int .i64 k, .int .i64 x, .string ⟨#[]⟩, .slice none 0 0]) (by simp [results, Try.results41, go_sem, r0, r1, r2, r3]) rfl ?_
  refine ⟨_, rfl, TAt.of (t := .mk k x ⟨#[]⟩ []) ⟨HWF.out.1, HWF.out.2, by show (0 : Nat) ≤ _; exact Nat.zero_le _, Nat.le_refl _, by simp [maxLen], fun _ => rfl⟩ (TsAt.nil _ _ _), ?_, hkk⟩
  rw [HWD.out]
  exact hll
set_option maxRecDepth 100000 in
set_option maxHeartbeats 8000000 in
theorem build_atom (s : ByteArray) (i : Nat) (u n : Int) (w : World) (F : Nat → Prop) (gh g : Nat) (L : List ByteArray) (lim : Int) (H : List It) (gl gp gb : Nat) (hE : GE w F gh g L lim H gl gp gb) (hL : Blk w gl 3 #[.int .i64 n]) (hu : U64 u) (hk : unK u = 2) (hn : unN u = (i : Int)) (hy : unE u = 0) (hs : L[i]? = some s) (h64 : s.size ≤ maxLen) (h1 : 1 ≤ n) (h6 : n ≤ 65536) : Calls Try.prog 41 #[.int .u64 u, .pointer (some ⟨gl, 0, none⟩), .pointer (some ⟨gp, 0, none⟩), .pointer (some ⟨gb, 0, none⟩)] w (BP w gl (.mk 2 0 s []) n) := by
  have HNM := Lib.hid (fun (w' : World) (F' FT : Nat → Prop) (hT : Tab w' FT g L) => name_yes g L i s w' FT hT hs)
  have HWD := Lib.hid (show wds (.mk 2 0 s []) = 1 from by rw [wds_mk]; unfold ownN; rw [if_neg (by simp only [Tm.k_mk]; omega)]; split <;> simp [wdsL_nil])
  have HUN := Lib.hid (fun w => unpack_as hu hk hn hy w)
  have hgl : gl < w.heap.size := hL.lt
  have hz := Blk.new w 28 #[.int .i64 0, .int .i64 0, .string ⟨#[]⟩, .slice none 0 0]
  have hb0 := ballocs (Below.refl w.heap.size w) (.cells #[.int .i64 0, .int .i64 0, .string ⟨#[]⟩, .slice none 0 0] 28)
  have HZ := Lib.hid hz; have HB0 := Lib.hid hb0; have HE := Lib.hid hE; have HL := Lib.hid hL
  clear hz hb0 hL hk hn hy hE
  go_enter Try.func41, Try.ntmps41
  go_wp2_with fail
  obtain ⟨w1, hw1⟩ : ∃ x, w.alloc (.cells #[.int .i64 0, .int .i64 0, .string ⟨#[]⟩, .slice none 0 0] 28) = x := ⟨_, rfl⟩
  rw [hw1] at HZ HB0 ⊢
  clear hw1
  go_step3
  go_wp2_with fail
  refine (HUN.out w1).mono ?_
  rintro e w2 ⟨rfl, hb2⟩
  have hr2 := (HL.out.below HB0.out HL.out.lt).below hb2 (Nat.lt_of_lt_of_le HL.out.lt HB0.out.size)
  have hz2 := HZ.out.below hb2 HZ.out.lt
  have hlt2 : gl < w2.heap.size := Blk.lt hr2
  have hlz2 : w.heap.size < w2.heap.size := hz2.lt
  have q0 : w2.cell? ⟨gl, 0, none⟩ = some (.int .i64 n) := by rw [hr2.cell]; rfl
  have f0 := hr2.frozen 0
  obtain ⟨z0, z1, z2, z3, y0, y1, y2, y3⟩ := hz2.four
  have hb02 := fbelow HB0.out hb2
  have hE2 := HE.out.below hb02
  have p0 : w2.cell? ⟨gp, 0, none⟩ = some (.pointer (some ⟨gh, 0, none⟩)) := by rw [hE2.bp.cell]; rfl
  have hgp2 : gp < w2.heap.size := hE2.bp.lt
  have hnp := HE.out.np
  have HB02 := Lib.hid hb02; have HR2 := Lib.hid hr2; have HZ2 := Lib.hid hz2
  clear hb2 hr2 hz2 hb02 hE2
  have hE2 := HE.out.below HB02.out
  obtain ⟨_, FT, v, bm, N, D, hq, _⟩ := hE2.hp
  obtain ⟨Av, cv, rfl, hc1, hc2, c0, c1, c2, c3⟩ := hq.cells
  have hgh2 : gh < w2.heap.size := hq.fl _ hq.fg
  have hghl : gh ≠ gl := fun e => HE.out.nl (e ▸ hq.fg)
  clear hE2 c1 c2 c3 hc1 hc2
  go_wp2_with fail
  obtain ⟨k1, k2, k3, k4⟩ := left_new (m := n - 1) (cs := #[.int .i64 2, .int .i64 (i : Int), .string ⟨#[]⟩, .slice none 0 0]) HB02.out HZ2.out HR2.out hgl
  have hkx : Keep (fun b => b = gl) w2 ((w2.setCell ⟨gl, 0, none⟩ (.int .i64 (n - 1))).alloc (.cells #[.int .i64 2, .int .i64 (i : Int), .string ⟨#[]⟩, .slice none 0 0] 28)) := ((Keep.refl (fun b => b = gl) w2).setCell (p := ⟨gl, 0, none⟩) (.inl rfl) _).alloc _
  have hT3 := hq.tab.keep hkx (fun r hr e => HE.out.nl (e ▸ hq.ft r hr))
  have HK := Lib.hid (And.intro k2 (And.intro k3 k4))
  obtain ⟨z0, z1, z2, z3, y0, y1, y2, y3⟩ := k2.four
  clear k1 k2 k3 k4 hq
  obtain ⟨w3, hw3⟩ : ∃ x, (w2.setCell ⟨gl, 0, none⟩ (.int .i64 (n - 1))).alloc (.cells #[.int .i64 2, .int .i64 (i : Int), .string ⟨#[]⟩, .slice none 0 0] 28) = x := ⟨_, rfl⟩
  rw [hw3] at HK hT3 z0 z1 z2 z3 y0 y1 y2 y3 ⊢
  clear hw3 hkx
  have HNT := Lib.hid (HNM.out _ F FT hT3)
  clear hT3 p0 q0 f0 c0 hgh2 hghl hnp hgp2
  refine HNT.out.mono ?_
  rintro e w4 ⟨rfl, h4⟩
  subst h4
  go_wp2_with fail
  obtain ⟨k2, k3, k4⟩ := HK.out
  obtain ⟨r0, r1, r2, r3, _, _, _, _⟩ := (put4_blk k2 (.int .i64 2) (.int .i64 0) (.string s) (.slice none 0 0)).four
  have hkk := put4_keep k4 (g := w.heap.size) (.inr (Nat.le_refl _)) (.int .i64 2) (.int .i64 0) (.string s) (.slice none 0 0)
  have hll := put4_far k3 (g' := w.heap.size) (by omega) (.int .i64 2) (.int .i64 0) (.string s) (.slice none 0 0)
  unfold put4 at r0 r1 r2 r3 hkk hll
  try rw [Exit.noGoto_ret]
  refine bodyPost_ret (v := .agg #[.int .i64 2, .int .i64 0, .string s, .slice none 0 0]) (by simp [results, Try.results41, go_sem, r0, r1, r2, r3]) rfl ?_
  refine ⟨_, rfl, TAt.of (t := .mk 2 0 s []) ⟨(by show (Lit.int .i64 2).wf = true; decide), (by show (Lit.int .i64 0).wf = true; decide), h64, Nat.le_refl _, by simp [maxLen], fun _ => rfl⟩ (TsAt.nil _ _ _), ?_, hkk⟩
  rw [HWD.out]
  exact hll
def BuildAt (L : List ByteArray) (H : List It) (t : Tm) (u : Int) : Prop := ∀ (n : Int) (w : World) (F : Nat → Prop) (gh g : Nat) (lim : Int) (gl gp gb : Nat), GE w F gh g L lim H gl gp gb → Blk w gl 3 #[.int .i64 n] → wds t ≤ n → n ≤ 65536 →
  Calls Try.prog 41 #[.int .u64 u, .pointer (some ⟨gl, 0, none⟩), .pointer (some ⟨gp, 0, none⟩), .pointer (some ⟨gb, 0, none⟩)] w (BP w gl t n)
theorem parts_hp {w : World} {F : Nat → Prop} {gh g : Nat} {L : List ByteArray} {lim : Int} {H : List It} (h : Hp w F gh g L lim H) {u : Int} (hu : U64 u) {x : It} (hk : unK u = x.k) (hx : itAt H (unN u) = some x) :
    Calls Try.prog 39 #[.pointer (some ⟨gh, 0, none⟩), .int .u64 u] w fun e w' => ∃ r, F r ∧ PartPost x r w e w' := by
  obtain ⟨hb, FT, v, bm, N, D, hq, _⟩ := h
  obtain ⟨A, c, rfl, hc1, hc2, c0, c1, c2, c3⟩ := hq.cells
  obtain ⟨s1, s2, s3⟩ := itAt_seg hx
  have hok := hb.wf.ok x (itAt_mem hx)
  have hp := hok.pos
  obtain ⟨r, c', hv, k1, k2, k3, k4, k5⟩ := ownsRow_at hq.row (k := 0) (by omega)
  injection hv with e1 _ e2
  subst e1 e2
  have hlim := hb.lim1
  have hhl := hb.hl
  refine (parts_any gh r (hW H).length c (unN u).toNat (hW H) x u w hu hk (by omega) hok s3 (by omega) rfl (by omega) hc1 hc2 c2 (fun j u hu => k5 j _ (by unfold u64s; rw [List.getElem?_map, hu]; rfl))).mono ?_
  intro e w' hpost
  exact ⟨r, hq.fv r rfl, hpost⟩
theorem wdsL_take_le (l : List Tm) (i : Nat) : wdsL (l.take i) ≤ wdsL l := by
  have h : wdsL (l.take i) + wdsL (l.drop i) = wdsL l := by rw [← wdsL_append, List.take_append_drop]
  have := (wdsL_range (l.drop i)).1
  omega
theorem left_newk {w w2 : World} {gl : Nat} {cs : Array Value} {n m : Int} (hb : Keep (fun b => b = gl) w w2) (hz : Blk w2 w.heap.size 28 tz) (hl : Blk w2 gl 3 #[.int .i64 n]) (hw : gl < w.heap.size) :
    Blk ((w2.setCell ⟨gl, 0, none⟩ (.int .i64 m)).alloc (.cells cs 28)) w2.heap.size 28 cs ∧ Blk ((w2.setCell ⟨gl, 0, none⟩ (.int .i64 m)).alloc (.cells cs 28)) w.heap.size 28 tz ∧ Blk ((w2.setCell ⟨gl, 0, none⟩ (.int .i64 m)).alloc (.cells cs 28)) gl 3 #[.int .i64 m] ∧ Keep (fun b => b = gl) w ((w2.setCell ⟨gl, 0, none⟩ (.int .i64 m)).alloc (.cells cs 28)) := by
  have e0 : (w2.setCell ⟨gl, 0, none⟩ (.int .i64 m)).heap.size = w2.heap.size := by simp [World.setCell]
  have h1 := Blk.new (w2.setCell ⟨gl, 0, none⟩ (.int .i64 m)) 28 cs
  rw [e0] at h1
  exact ⟨h1, (hz.far (by show w.heap.size ≠ gl; omega) _).alloc _, by have := (hl.set_ 0 (.int .i64 m)).alloc (.cells cs 28); simpa using this, (hb.setCell (p := ⟨gl, 0, none⟩) (.inl rfl) _).alloc _⟩
theorem left_new2 {w w2 : World} {gl : Nat} {cs : Array Value} {n n' m : Int} (hb : Below w.heap.size w w2) (hz : Blk w2 w.heap.size 28 tz) (hl : Blk w2 gl 3 #[.int .i64 n]) (hw : gl < w.heap.size) :
    Blk (((w2.setCell ⟨gl, 0, none⟩ (.int .i64 n')).setCell ⟨gl, 0, none⟩ (.int .i64 m)).alloc (.cells cs 28)) w2.heap.size 28 cs ∧ Blk (((w2.setCell ⟨gl, 0, none⟩ (.int .i64 n')).setCell ⟨gl, 0, none⟩ (.int .i64 m)).alloc (.cells cs 28)) w.heap.size 28 tz ∧ Blk (((w2.setCell ⟨gl, 0, none⟩ (.int .i64 n')).setCell ⟨gl, 0, none⟩ (.int .i64 m)).alloc (.cells cs 28)) gl 3 #[.int .i64 m] ∧ Keep (fun b => b = gl) w (((w2.setCell ⟨gl, 0, none⟩ (.int .i64 n')).setCell ⟨gl, 0, none⟩ (.int .i64 m)).alloc (.cells cs 28)) := by
  have e0 : (w2.setCell ⟨gl, 0, none⟩ (.int .i64 n')).heap.size = w2.heap.size := by simp [World.setCell]
  have h := left_newk (m := m) (cs := cs) ((Keep.new (F := fun b => b = gl) hb).setCell (p := ⟨gl, 0, none⟩) (.inl rfl) (.int .i64 n')) (hz.far (p := ⟨gl, 0, none⟩) (by show w.heap.size ≠ gl; omega) _) (n := n') (by have := hl.set_ 0 (.int .i64 n'); simpa using this) hw
  rw [e0] at h
  exact h
set_option maxRecDepth 100000 in
set_option maxHeartbeats 8000000 in
theorem build_box9 (x : It) (p : Nat) (l : List Tm) (u n : Int) (w : World) (F : Nat → Prop) (gh g : Nat) (L : List ByteArray) (lim : Int) (H : List It) (gl gp gb : Nat) (hE : GE w F gh g L lim H gl gp gb) (hL : Blk w gl 3 #[.int .i64 n]) (hu : U64 u) (hk : unK u = 9) (hn : unN u = (p : Int)) (hy : unE u = 0) (hxk : x.k = 9) (hat : itAt H (p : Int) = some x) (hl : x.ws.length = l.length) (IH : ∀ (i : Nat) (t : Tm) (v : Int), l[i]? = some t → x.ws[i]? = some v → BuildAt L H t v) (h1 : wds (.mk 9 x.n ⟨#[]⟩ l) ≤ n) (h6 : n ≤ 65536) : Calls Try.prog 41 #[.int .u64 u, .pointer (some ⟨gl, 0, none⟩), .pointer (some ⟨gp, 0, none⟩), .pointer (some ⟨gb, 0, none⟩)] w (BP w gl (.mk 9 x.n ⟨#[]⟩ l) n) := by
  have hok := hE.hp.1.wf.ok x (itAt_mem hat)
  have HPT := Lib.hid (fun (w' : World) (h : GE w' F gh g L lim H gl gp gb) => parts_hp h.hp hu (hk.trans hxk.symm) (hn ▸ hat))
  have hlen := hok.len
  have HWD := Lib.hid (show wds (.mk 9 x.n ⟨#[]⟩ l) = 1 + wdsL l from by rw [wds_mk]; unfold ownN hasB; simp)
  have HUR := Lib.hid (un_range hu)
  have hx0 : x.n = 0 := (hok.cons hxk).1
  have HIT := Lib.hid (show itN x = 0 from by unfold itN; rw [if_pos hxk])
  rw [hx0] at h1 HWD ⊢
  obtain ⟨m, hm⟩ : ∃ m, x.ws.length = m := ⟨_, rfl⟩
  have hlm : l.length = m := by omega
  rw [hm] at hlen
  have h1' : wdsL l + 1 ≤ n := by have := HWD.out; omega
  have hw0 := (wdsL_range l).1
  have HM := Lib.hid hm; have HLM := Lib.hid hlm; have HIH := Lib.hid IH
  obtain ⟨ws, hws⟩ : ∃ ws, x.ws = ws := ⟨_, rfl⟩
  clear hok hat hl IH hm hlm h1 hxk hx0
  have HUN := Lib.hid (fun w => unpack_as hu hk hn hy w)
  have hgl : gl < w.heap.size := hL.lt
  have hz := Blk.new w 28 #[.int .i64 0, .int .i64 0, .string ⟨#[]⟩, .slice none 0 0]
  have hb0 := ballocs (Below.refl w.heap.size w) (.cells #[.int .i64 0, .int .i64 0, .string ⟨#[]⟩, .slice none 0 0] 28)
  have HZ := Lib.hid hz; have HB0 := Lib.hid hb0; have HE := Lib.hid hE; have HL := Lib.hid hL
  clear hz hb0 hL hk hn hy hE
  go_enter Try.func41, Try.ntmps41
  go_wp2_with fail
  obtain ⟨w1, hw1⟩ : ∃ x, w.alloc (.cells #[.int .i64 0, .int .i64 0, .string ⟨#[]⟩, .slice none 0 0] 28) = x := ⟨_, rfl⟩
  rw [hw1] at HZ HB0 ⊢
  clear hw1
  go_step3
  go_wp2_with fail
  refine (HUN.out w1).mono ?_
  rintro e w2 ⟨rfl, hb2⟩
  have hr2 := (HL.out.below HB0.out HL.out.lt).below hb2 (Nat.lt_of_lt_of_le HL.out.lt HB0.out.size)
  have hz2 := HZ.out.below hb2 HZ.out.lt
  have hlt2 : gl < w2.heap.size := Blk.lt hr2
  have hlz2 : w.heap.size < w2.heap.size := hz2.lt
  have q0 : w2.cell? ⟨gl, 0, none⟩ = some (.int .i64 n) := by rw [hr2.cell]; rfl
  have f0 := hr2.frozen 0
  obtain ⟨z0, z1, z2, z3, y0, y1, y2, y3⟩ := hz2.four
  have hb02 := fbelow HB0.out hb2
  have hE2 := HE.out.below hb02
  have p0 : w2.cell? ⟨gp, 0, none⟩ = some (.pointer (some ⟨gh, 0, none⟩)) := by rw [hE2.bp.cell]; rfl
  have hgp2 : gp < w2.heap.size := hE2.bp.lt
  have hnp := HE.out.np
  have HB02 := Lib.hid hb02; have HR2 := Lib.hid hr2; have HZ2 := Lib.hid hz2
  clear hb2 hr2 hz2 hb02 hE2
  go_wp2_with fail
  obtain ⟨hg3, hz3, hl3, hk3⟩ := left_new (m := n - 1) (cs := #[.int .i64 9, .int .i64 (p : Int), .string ⟨#[]⟩, .slice none 0 0]) HB02.out HZ2.out HR2.out hgl
  obtain ⟨w3, hw3⟩ : ∃ x, (w2.setCell ⟨gl, 0, none⟩ (.int .i64 (n - 1))).alloc (.cells #[.int .i64 9, .int .i64 (p : Int), .string ⟨#[]⟩, .slice none 0 0] 28) = x := ⟨_, rfl⟩
  rw [hw3] at hg3 hz3 hl3 hk3 ⊢
  clear hw3
  obtain ⟨G8, hG8⟩ : ∃ G8, w2.heap.size = G8 := ⟨_, rfl⟩
  rw [hG8] at hg3 hlt2 hlz2 ⊢
  have hn8 : G8 ≠ gl := by omega
  have hn81 : G8 ≠ w.heap.size := by omega
  have hE3 := HE.out.keep hk3
  have HPC := Lib.hid (HPT.out w3 hE3)
  have HG3 := Lib.hid hg3; have HZ3 := Lib.hid hz3; have HL3 := Lib.hid hl3; have HK3 := Lib.hid hk3; have HE3 := Lib.hid hE3
  clear hg3 hz3 hl3 hk3 hE3 q0 f0 z0 z1 z2 z3 y0 y1 y2 y3 p0 hG8 hgp2
  refine HPC.out.mono ?_
  rintro e w5 ⟨r, hFr, A', c', he, hb5, ha5, h05, hc5, hr5⟩
  have hrl : r < w.heap.size := HE.out.hp.lt r hFr
  have hrn : r ≠ gl := fun e => HE.out.nl (e ▸ hFr)
  rw [HIT.out, HM.out] at he
  subst he
  rw [HM.out] at hr5 hc5
  have HWS := Lib.hid (fun wr (hk : Keep (fun b => b = gl) w wr) => hr5 wr (fun j => (hk.cell (p := ⟨r, j, none⟩) hrl hrn).trans (HK3.out.cell (p := ⟨r, j, none⟩) hrl hrn).symm) (Nat.lt_of_lt_of_le hrl hk.size))
  have hg5 := HG3.out.below hb5 HG3.out.lt
  have hz5 := HZ3.out.below hb5 HZ3.out.lt
  have hl5 := HL3.out.below hb5 HL3.out.lt
  have hk5 := HK3.out.trans (Keep.new (F := fun b => b = gl) hb5) (fun _ _ h => h)
  clear hr5 hb5 ha5 h05 HG3 HZ3 HL3 HK3
  obtain ⟨o0, o1, o2, o3, u0, u1, u2, u3⟩ := hg5.four
  obtain ⟨z0, z1, z2, z3, y0, y1, y2, y3⟩ := hz5.four
  have q0 : w5.cell? ⟨gl, 0, none⟩ = some (.int .i64 (n - 1)) := by rw [hl5.cell]; rfl
  have hlt5 : gl < w5.heap.size := hl5.lt
  have hl85 : G8 < w5.heap.size := hg5.lt
  obtain ⟨hg6, hz6, hl6, hk6⟩ := g8_set (m := 0) hg5 hz5 hl5 hk5 hn8 hlz2
  have HI0 := Lib.hid (show GI w _ gl l G8 9 0 (n - 1) 0 from ⟨_, by rw [List.take_zero, wdsL_nil, Int.sub_zero]; exact hl6, hz6, hg6, TRow.none_ _ _ _, hk6⟩)
  have HZ5 := Lib.hid hz5; have HG5 := Lib.hid hg5
  clear hg5 hz5 hl5 hk5 hg6 hz6 hl6 hk6
  obtain ⟨i0, hin, hy0, hy1, hy2⟩ := info_parts infoT
  go_wp2_with fail
  go_step3
  go_wp2_with fail
  go_loopw [62] (fun x wr => ∃ i : Nat, i ≤ m ∧ x = .int .i64 (i : Int) ∧ GI w wr gl l G8 9 0 (n - 1) i) (fun x _ => m - (intOf x).toNat)
  case atStart => exact ⟨0, Nat.zero_le _, rfl, HI0.out⟩
  case round =>
    obtain ⟨i, hi, rfl, row, hl, hz, hg, hrow, hk⟩ := hrel
    clear HI0
    obtain ⟨ts, hts⟩ : ∃ ts, l.take i = ts := ⟨_, rfl⟩
    rw [hts] at hrow
    have hll : ts.length = i := by have := HLM.out; rw [← hts, List.length_take]; omega
    obtain ⟨A3, c3, rfl, _, _, _⟩ := hrow.form
    have hwi : wdsL (l.take i) ≤ wdsL l := wdsL_take_le l i
    obtain ⟨nl, hnl⟩ : ∃ nl, n - 1 - wdsL (l.take i) = nl := ⟨_, rfl⟩
    have hnl0 : 0 ≤ nl := by omega
    have hnl1 : nl ≤ 65536 := by have := (wdsL_range (l.take i)).1; omega
    have qq : wr.cell? ⟨gl, 0, none⟩ = some (.int .i64 nl) := by rw [← hnl, hl.cell]; rfl
    have HG := Lib.hid hg; have HZR := Lib.hid hz; have HKR := Lib.hid hk; have HLL := Lib.hid hll; have HLR := Lib.hid hl; have HTS := Lib.hid hts; have HNL := Lib.hid hnl
    have hlr : gl < wr.heap.size := hl.lt
    have hl8r : G8 < wr.heap.size := hg.lt
    by_cases hlt : i < m
    · obtain ⟨u', hu'⟩ : ∃ u', ws[i]? = some u' := ⟨_, List.getElem?_eq_getElem (by have := HM.out; rw [hws] at this; omega)⟩
      obtain ⟨t, ht⟩ : ∃ t, l[i]? = some t := ⟨_, List.getElem?_eq_getElem (by have := HLM.out; omega)⟩
      obtain ⟨ad, uv, rfl, hab, huv, hcell⟩ := (HWS.out wr hk).at_ (k := i) hlt
      obtain rfl : uv = .int .u64 u' := u64_at (by rw [hws]; exact hu') huv
      have hle : wdsL (l.take i) + wds t ≤ wdsL l := by
        have := wdsL_take_le l (i + 1)
        rw [wdsL_take_succ ht] at this
        exact this
      have hEr := HE.out.keep hk.drew
      have HC := Lib.hid (HIH.out i t u' ht (by rw [hws]; exact hu') nl wr.drew F gh g lim gl gp gb hEr (hnl ▸ hl) (by omega) hnl1)
      obtain ⟨G, vs, hV, hG, hRw⟩ := hrow
      have HV := Lib.hid hV; have HGG := Lib.hid hG; have HRw := Lib.hid hRw; have HUT := Lib.hid ht; have HER := Lib.hid hEr
      have hS0 : wr.drew.cell? ⟨G8, 3, none⟩ = some (.slice A3 ts.length c3) ∧ wr.drew.cell? ⟨gb, 0, none⟩ = some (.func (.func 41) #[] #[.pointer (some ⟨gl, 0, none⟩), .pointer (some ⟨gp, 0, none⟩), .pointer (some ⟨gb, 0, none⟩)]) := ⟨hg.cell 3, hEr.bb.cell 0⟩
      have b1 : ts.length + 1 ≤ maxLen := by unfold maxLen; omega
      have b2 : (ts.length + 1) * 56 ≤ 140737488355328 := by omega
      have hi0 : (0 : Int) ≤ (i : Int) := by omega
      have him : (i : Int) < (m : Int) := by omega
      clear hl hz hg hk hu' ht huv hV hG hRw hll hts hnl hle hEr hwi h1' hw0 hws
      go_wp2_with fail
      refine Zed.begin (S := fun wx => wx.cell? ⟨G8, 3, none⟩ = some (.slice A3 ts.length c3) ∧ wx.cell? ⟨gb, 0, none⟩ = some (.func (.func 41) #[] #[.pointer (some ⟨gl, 0, none⟩), .pointer (some ⟨gp, 0, none⟩), .pointer (some ⟨gb, 0, none⟩)])) (z := 8) (by kernel_rfl) hS0 (fun hHeld => ?_)
      refine Zed.take (i := 0) (oi := ⟨some 68, _, _, _, _, _⟩) (v := ?_) rfl (by kernel_rfl) (by kernel_rfl) (by kernel_rfl) (by kernel_rfl) (fun _ _ _ h => h) (Or.inl ⟨by rfl, ?_⟩) (by assumption) ?_
      rotate_left
      · intro wS hSw; obtain ⟨hSa, hSb⟩ := hSw; go_simp; try with_reducible rfl
      try simp only [Act.put, List.setIfInBounds_toArray, List.set_cons_zero, List.set_cons_succ]
      refine Zed.take (i := 1) (oi := ⟨some 69, _, _, _, _, _⟩) (v := ?_) rfl (by kernel_rfl) (by kernel_rfl) (by kernel_rfl) (by kernel_rfl) (fun _ _ _ h => h) (Or.inl ⟨by rfl, ?_⟩) (by assumption) ?_
      rotate_left
      · intro wS hSw; obtain ⟨hSa, hSb⟩ := hSw; go_simp; try with_reducible rfl
      try simp only [Act.put, List.setIfInBounds_toArray, List.set_cons_zero, List.set_cons_succ]
      refine Zed.take (i := 2) (oi := ⟨some 70, _, _, _, _, _⟩) (v := ?_) rfl (by kernel_rfl) (by kernel_rfl) (by kernel_rfl) (by kernel_rfl) (fun _ _ _ h => h) (Or.inl ⟨by rfl, ?_⟩) (by assumption) ?_
      rotate_left
      · intro wS hSw; obtain ⟨hSa, hSb⟩ := hSw; go_simp; try with_reducible rfl
      try simp only [Act.put, List.setIfInBounds_toArray, List.set_cons_zero, List.set_cons_succ]
      refine Zed.take (i := 3) (oi := ⟨some 71, _, _, _, _, _⟩) (v := ?_) rfl (by kernel_rfl) (by kernel_rfl) (by kernel_rfl) (by kernel_rfl) (fun _ _ _ h => h) (Or.inl ⟨by rfl, ?_⟩) (by assumption) ?_
      rotate_left
      · intro wS hSw; obtain ⟨hSa, hSb⟩ := hSw; go_simp; try with_reducible rfl
      try simp only [Act.put, List.setIfInBounds_toArray, List.set_cons_zero, List.set_cons_succ]
      refine Zed.ready (rs := [4]) (by kernel_rfl) (by simp) ?_
      refine Zeach.cons (o := ⟨some 72, _, _, _, _, _⟩) rfl (fun K hK => ?_) Zeach.nil
      go_simp
      go_at_call 41
      refine HC.out.mono ?_
      rintro e w6 hpost
      obtain ⟨k6, m6, s6, A6, l6, c6, rfl, hk6, ht6, hb6⟩ := hpost.form
      have hk6r := (Keep.refl (fun b => b = gl) wr).drew.trans hk6 (fun _ _ h => h)
      have hg6 := HG.out.keep hk6r hn8
      have hf6 := (HER.out.keep hk6).bb
      have hS6 : w6.cell? ⟨G8, 3, none⟩ = some (.slice A3 ts.length c3) := hg6.cell 3
      have hS7 : ∀ o, (w6.alloc o).cell? ⟨G8, 3, none⟩ = some (.slice A3 ts.length c3) := fun o => (hg6.alloc o).cell 3
      have hF6 := hf6.cell 0
      have hF7 := fun o => (hf6.alloc o).cell 0
      have HK6 := Lib.hid hk6r; have HG6 := Lib.hid hg6; have HT6 := Lib.hid ht6; have HB6 := Lib.hid hb6; have HS7 := Lib.hid hS7; have HF6 := Lib.hid hF6; have HF7 := Lib.hid hF7; have HFB := Lib.hid hf6
      clear hpost hk6 hk6r hg6 ht6 hb6 hS7 hF6 hF7 hf6
      go_wp2_with fail
      refine hK.out _ _ ⟨hS6, HF6.out⟩ (fun hHeld => ?_)
      clear hK K
      try simp only [Act.put, List.setIfInBounds_toArray, List.set_cons_zero, List.set_cons_succ]
      refine Zed.ready (rs := [5]) (by kernel_rfl) (by simp) ?_
      refine Zeach.cons (o := ⟨some 73, _, _, _, _, _⟩) rfl (fun K hK => ?_) Zeach.nil
      go_simp
      refine hK.out _ _ ⟨HS7.out _, HF7.out _⟩ (fun hHeld => ?_)
      clear hK K
      try simp only [Act.put, List.setIfInBounds_toArray, List.set_cons_zero, List.set_cons_succ]
      refine Zed.ready (rs := [6]) (by kernel_rfl) (by simp) ?_
      refine Zeach.cons (o := ⟨some 74, _, _, _, _, _⟩) rfl (fun K hK => ?_) Zeach.nil
      have hR7 := (ownsRow_keep HRw.out HK6.out (fun r hr (e : r = gl) => by have := (HRw.out.lt r hr).1; omega)).alloc (.cells #[.int .i64 k6, .int .i64 m6, .string s6, .slice A6 l6 c6] 28)
      have hc4 := cells4_new w6 (.int .i64 k6) (.int .i64 m6) (.string s6) (.slice A6 l6 c6) 28
      have b3 : G8 + 1 ≤ (w6.alloc (.cells #[.int .i64 k6, .int .i64 m6, .string s6, .slice A6 l6 c6] 28)).heap.size := by have := HG6.out.lt; simp; omega
      obtain ⟨v3, w3, run3, hR3, hg3, _, hat3⟩ := run_append_own_at (P := Try.prog) (w6.alloc (.cells #[.int .i64 k6, .int .i64 m6, .string s6, .slice A6 l6 c6] 28)) (G8 + 1) 26 26 28 i0 _ 4 56 Try.underlying26 hin hy0 hy1 hy2 rfl (by decide) (.slice A3 ts.length c3) ts.length _ hR7 ⟨w6.heap.size, 0, none⟩ 1 1 [.int .i64 k6, .int .i64 m6, .string s6, .slice A6 l6 c6] rfl hc4 (one4 _ _ _ _ _ _) b1 b2 b3
      obtain ⟨A5, c5, rfl, _, _⟩ := ownsRow_form hR3
      have hg23 := (HG6.out.alloc (.cells #[.int .i64 k6, .int .i64 m6, .string s6, .slice A6 l6 c6] 28)).grown hg3 (fun e => by have := (HRw.out.lt _ e.symm).1; omega)
      have hfb3 := (HFB.out.alloc (.cells #[.int .i64 k6, .int .i64 m6, .string s6, .slice A6 l6 c6] 28)).grown hg3 (fun e => by have := (HRw.out.lt _ e.symm).1; have := HE.out.bb.lt; omega)
      have hF8 := hfb3.cell 0
      obtain ⟨x0, x1, x2, x3, y0, y1, y2, y3⟩ := hg23.four
      have HKP := Lib.hid (fun v => g_keeps hgl hlz2 HZR.out HG.out HKR.out HK6.out hg3 (fun r hr => HRw.out.lt r hr) v)
      have HR3 := Lib.hid hR3; have HG3 := Lib.hid hg3; have HAT3 := Lib.hid hat3
      clear hR3 hg3 hat3 hg23 hR7 hc4 b3 hfb3
      refine step_append_run (.tmp 69) (.tmp 73) 26 _ _ _ run3 rfl rfl (by simp [Act.eval, Act.put]) (by simp [Act.eval, Act.put]) ?_
      refine hK.out _ _ ⟨x3, hF8⟩ (fun hHeld => ?_)
      clear hK K
      try simp only [Act.put, List.setIfInBounds_toArray, List.set_cons_zero, List.set_cons_succ]
      refine Zed.take (i := 7) (oi := ⟨some 75, _, _, _, _, _⟩) (v := ?_) rfl (by kernel_rfl) (by kernel_rfl) (by kernel_rfl) (by kernel_rfl) (fun _ _ _ h => h) (Or.inl ⟨by rfl, ?_⟩) (by assumption) ?_
      rotate_left
      · intro wS hSw; obtain ⟨hSa, hSb⟩ := hSw; go_simp; try with_reducible rfl
      try simp only [Act.put, List.setIfInBounds_toArray, List.set_cons_zero, List.set_cons_succ]
      refine Zed.ready (rs := [8]) (by kernel_rfl) (by simp) ?_
      refine Zeach.last (o := ⟨none, _, _, _, _, _⟩) rfl (fun K hK => ?_)
      go_simp
      refine hK.out _ _ ?_
      clear hK K
      try simp only [Act.put, List.setIfInBounds_toArray, List.set_cons_zero, List.set_cons_succ]
      refine Zed.done (by kernel_rfl) ?_ _
      have HI := Lib.hid (GI.step (i := i) hgl hlz2 HTS.out.symm HUT.out HZR.out HG.out HKR.out HV.out HGG.out HRw.out HK6.out HT6.out (HNL.out ▸ HB6.out) HG3.out HR3.out HAT3.out)
      obtain ⟨w9, hw9⟩ : ∃ x, w3.setCell ⟨G8, 3, none⟩ (.slice A5 (ts.length + 1) c5) = x := ⟨_, rfl⟩
      rw [hw9] at HI ⊢
      clear hw9 x0 x1 x2 x3 y0 y1 y2 y3 hS6 run3 HKP HR3 HG3 HAT3
      go_wp2_with fail
      exact ⟨⟨i + 1, by omega, by go_num, HI.out⟩, by simp [intOf]; omega⟩
    · obtain rfl : i = m := by omega
      have hfull : l.take i = l := List.take_of_length_le (by have := HLM.out; omega)
      rw [hfull] at hl hts
      subst hts
      have HD := Lib.hid (GI.done (k := 9) (x := 0) (n := n - 1) (n0 := n) hgl hlz2 (by decide) (by decide) (by have := HWD.out; omega) hl hrow hk)
      obtain ⟨z0, z1, z2, z3, t0, t1, t2, t3⟩ := hz.four
      obtain ⟨o0, o1, o2, o3, _, _, _, _⟩ := hg.four
      clear hl hz hg hrow hk hll hnl hfull
      go_wp2_with fail
      obtain ⟨r0, r1, r2, r3, _, _, _, _⟩ := (put4_blk HZR.out (.int .i64 9) (.int .i64 0) (.string ⟨#[]⟩) (.slice A3 l.length c3)).four
      unfold put4 at r0 r1 r2 r3
      try rw [Exit.noGoto_ret]
      exact bodyPost_ret (v := .agg #[.int .i64 9, .int .i64 0, .string ⟨#[]⟩, .slice A3 l.length c3]) (by simp [results, Try.results41, go_sem, r0, r1, r2, r3]) rfl HD.out
set_option maxRecDepth 100000 in
set_option maxHeartbeats 8000000 in
theorem build_box7 (x : It) (p : Nat) (l : List Tm) (u n : Int) (w : World) (F : Nat → Prop) (gh g : Nat) (L : List ByteArray) (lim : Int) (H : List It) (gl gp gb : Nat) (hE : GE w F gh g L lim H gl gp gb) (hL : Blk w gl 3 #[.int .i64 n]) (hu : U64 u) (hk : unK u = 7) (hn : unN u = (p : Int)) (hy : unE u = 0) (hxk : x.k = 7) (hat : itAt H (p : Int) = some x) (hl : x.ws.length = l.length) (IH : ∀ (i : Nat) (t : Tm) (v : Int), l[i]? = some t → x.ws[i]? = some v → BuildAt L H t v) (h1 : wds (.mk 7 x.n ⟨#[]⟩ l) ≤ n) (h6 : n ≤ 65536) : Calls Try.prog 41 #[.int .u64 u, .pointer (some ⟨gl, 0, none⟩), .pointer (some ⟨gp, 0, none⟩), .pointer (some ⟨gb, 0, none⟩)] w (BP w gl (.mk 7 x.n ⟨#[]⟩ l) n) := by
  have hok := hE.hp.1.wf.ok x (itAt_mem hat)
  have HPT := Lib.hid (fun (w' : World) (h : GE w' F gh g L lim H gl gp gb) => parts_hp h.hp hu (hk.trans hxk.symm) (hn ▸ hat))
  have hlen := hok.len
  have HWD := Lib.hid (show wds (.mk 7 x.n ⟨#[]⟩ l) = 2 + wdsL l from by rw [wds_mk]; unfold ownN hasB; simp)
  have HUR := Lib.hid (un_range hu)
  have hx0 : x.n = 0 := hok.tup hxk
  have HIT := Lib.hid (show itN x = (x.ws.length : Int) from by unfold itN; rw [if_neg (by omega), if_neg (by omega)])
  rw [hx0] at h1 HWD ⊢
  obtain ⟨m, hm⟩ : ∃ m, x.ws.length = m := ⟨_, rfl⟩
  have hlm : l.length = m := by omega
  rw [hm] at hlen
  have h1' : wdsL l + 2 ≤ n := by have := HWD.out; omega
  have hw0 := (wdsL_range l).1
  have HM := Lib.hid hm; have HLM := Lib.hid hlm; have HIH := Lib.hid IH
  obtain ⟨ws, hws⟩ : ∃ ws, x.ws = ws := ⟨_, rfl⟩
  clear hok hat hl IH hm hlm h1 hxk hx0
  have HUN := Lib.hid (fun w => unpack_as hu hk hn hy w)
  have hgl : gl < w.heap.size := hL.lt
  have hz := Blk.new w 28 #[.int .i64 0, .int .i64 0, .string ⟨#[]⟩, .slice none 0 0]
  have hb0 := ballocs (Below.refl w.heap.size w) (.cells #[.int .i64 0, .int .i64 0, .string ⟨#[]⟩, .slice none 0 0] 28)
  have HZ := Lib.hid hz; have HB0 := Lib.hid hb0; have HE := Lib.hid hE; have HL := Lib.hid hL
  clear hz hb0 hL hk hn hy hE
  go_enter Try.func41, Try.ntmps41
  go_wp2_with fail
  obtain ⟨w1, hw1⟩ : ∃ x, w.alloc (.cells #[.int .i64 0, .int .i64 0, .string ⟨#[]⟩, .slice none 0 0] 28) = x := ⟨_, rfl⟩
  rw [hw1] at HZ HB0 ⊢
  clear hw1
  go_step3
  go_wp2_with fail
  refine (HUN.out w1).mono ?_
  rintro e w2 ⟨rfl, hb2⟩
  have hr2 := (HL.out.below HB0.out HL.out.lt).below hb2 (Nat.lt_of_lt_of_le HL.out.lt HB0.out.size)
  have hz2 := HZ.out.below hb2 HZ.out.lt
  have hlt2 : gl < w2.heap.size := Blk.lt hr2
  have hlz2 : w.heap.size < w2.heap.size := hz2.lt
  have q0 : w2.cell? ⟨gl, 0, none⟩ = some (.int .i64 n) := by rw [hr2.cell]; rfl
  have f0 := hr2.frozen 0
  obtain ⟨z0, z1, z2, z3, y0, y1, y2, y3⟩ := hz2.four
  have hb02 := fbelow HB0.out hb2
  have hE2 := HE.out.below hb02
  have p0 : w2.cell? ⟨gp, 0, none⟩ = some (.pointer (some ⟨gh, 0, none⟩)) := by rw [hE2.bp.cell]; rfl
  have hgp2 : gp < w2.heap.size := hE2.bp.lt
  have hnp := HE.out.np
  have HB02 := Lib.hid hb02; have HR2 := Lib.hid hr2; have HZ2 := Lib.hid hz2
  clear hb2 hr2 hz2 hb02 hE2
  go_wp2_with fail
  obtain ⟨hg3, hz3, hl3, hk3⟩ := left_new2 (m := n - 1 - 1) (cs := #[.int .i64 7, .int .i64 (p : Int), .string ⟨#[]⟩, .slice none 0 0]) HB02.out HZ2.out HR2.out hgl
  obtain ⟨w3, hw3⟩ : ∃ x, ((w2.setCell ⟨gl, 0, none⟩ (.int .i64 (n - 1))).setCell ⟨gl, 0, none⟩ (.int .i64 (n - 1 - 1))).alloc (.cells #[.int .i64 7, .int .i64 (p : Int), .string ⟨#[]⟩, .slice none 0 0] 28) = x := ⟨_, rfl⟩
  rw [hw3] at hg3 hz3 hl3 hk3 ⊢
  clear hw3
  obtain ⟨G8, hG8⟩ : ∃ G8, w2.heap.size = G8 := ⟨_, rfl⟩
  rw [hG8] at hg3 hlt2 hlz2 ⊢
  have hn8 : G8 ≠ gl := by omega
  have hn81 : G8 ≠ w.heap.size := by omega
  have hE3 := HE.out.keep hk3
  have HPC := Lib.hid (HPT.out w3 hE3)
  have HG3 := Lib.hid hg3; have HZ3 := Lib.hid hz3; have HL3 := Lib.hid hl3; have HK3 := Lib.hid hk3; have HE3 := Lib.hid hE3
  clear hg3 hz3 hl3 hk3 hE3 q0 f0 z0 z1 z2 z3 y0 y1 y2 y3 p0 hG8 hgp2
  refine HPC.out.mono ?_
  rintro e w5 ⟨r, hFr, A', c', he, hb5, ha5, h05, hc5, hr5⟩
  have hrl : r < w.heap.size := HE.out.hp.lt r hFr
  have hrn : r ≠ gl := fun e => HE.out.nl (e ▸ hFr)
  rw [HIT.out, HM.out] at he
  subst he
  rw [HM.out] at hr5 hc5
  have HWS := Lib.hid (fun wr (hk : Keep (fun b => b = gl) w wr) => hr5 wr (fun j => (hk.cell (p := ⟨r, j, none⟩) hrl hrn).trans (HK3.out.cell (p := ⟨r, j, none⟩) hrl hrn).symm) (Nat.lt_of_lt_of_le hrl hk.size))
  have hg5 := HG3.out.below hb5 HG3.out.lt
  have hz5 := HZ3.out.below hb5 HZ3.out.lt
  have hl5 := HL3.out.below hb5 HL3.out.lt
  have hk5 := HK3.out.trans (Keep.new (F := fun b => b = gl) hb5) (fun _ _ h => h)
  clear hr5 hb5 ha5 h05 HG3 HZ3 HL3 HK3
  obtain ⟨o0, o1, o2, o3, u0, u1, u2, u3⟩ := hg5.four
  obtain ⟨z0, z1, z2, z3, y0, y1, y2, y3⟩ := hz5.four
  have q0 : w5.cell? ⟨gl, 0, none⟩ = some (.int .i64 (n - 1 - 1)) := by rw [hl5.cell]; rfl
  have hlt5 : gl < w5.heap.size := hl5.lt
  have hl85 : G8 < w5.heap.size := hg5.lt
  obtain ⟨hg6, hz6, hl6, hk6⟩ := g8_set (m := 0) hg5 hz5 hl5 hk5 hn8 hlz2
  have HI0 := Lib.hid (show GI w _ gl l G8 7 0 (n - 1 - 1) 0 from ⟨_, by rw [List.take_zero, wdsL_nil, Int.sub_zero]; exact hl6, hz6, hg6, TRow.none_ _ _ _, hk6⟩)
  have HZ5 := Lib.hid hz5; have HG5 := Lib.hid hg5
  clear hg5 hz5 hl5 hk5 hg6 hz6 hl6 hk6
  obtain ⟨i0, hin, hy0, hy1, hy2⟩ := info_parts infoT
  go_wp2_with fail
  go_step3
  go_wp2_with fail
  go_loopw [62] (fun x wr => ∃ i : Nat, i ≤ m ∧ x = .int .i64 (i : Int) ∧ GI w wr gl l G8 7 0 (n - 1 - 1) i) (fun x _ => m - (intOf x).toNat)
  case atStart => exact ⟨0, Nat.zero_le _, rfl, HI0.out⟩
  case round =>
    obtain ⟨i, hi, rfl, row, hl, hz, hg, hrow, hk⟩ := hrel
    clear HI0
    obtain ⟨ts, hts⟩ : ∃ ts, l.take i = ts := ⟨_, rfl⟩
    rw [hts] at hrow
    have hll : ts.length = i := by have := HLM.out; rw [← hts, List.length_take]; omega
    obtain ⟨A3, c3, rfl, _, _, _⟩ := hrow.form
    have hwi : wdsL (l.take i) ≤ wdsL l := wdsL_take_le l i
    obtain ⟨nl, hnl⟩ : ∃ nl, n - 1 - 1 - wdsL (l.take i) = nl := ⟨_, rfl⟩
    have hnl0 : 0 ≤ nl := by omega
    have hnl1 : nl ≤ 65536 := by have := (wdsL_range (l.take i)).1; omega
    have qq : wr.cell? ⟨gl, 0, none⟩ = some (.int .i64 nl) := by rw [← hnl, hl.cell]; rfl
    have HG := Lib.hid hg; have HZR := Lib.hid hz; have HKR := Lib.hid hk; have HLL := Lib.hid hll; have HLR := Lib.hid hl; have HTS := Lib.hid hts; have HNL := Lib.hid hnl
    have hlr : gl < wr.heap.size := hl.lt
    have hl8r : G8 < wr.heap.size := hg.lt
    by_cases hlt : i < m
    · obtain ⟨u', hu'⟩ : ∃ u', ws[i]? = some u' := ⟨_, List.getElem?_eq_getElem (by have := HM.out; rw [hws] at this; omega)⟩
      obtain ⟨t, ht⟩ : ∃ t, l[i]? = some t := ⟨_, List.getElem?_eq_getElem (by have := HLM.out; omega)⟩
      obtain ⟨ad, uv, rfl, hab, huv, hcell⟩ := (HWS.out wr hk).at_ (k := i) hlt
      obtain rfl : uv = .int .u64 u' := u64_at (by rw [hws]; exact hu') huv
      have hle : wdsL (l.take i) + wds t ≤ wdsL l := by
        have := wdsL_take_le l (i + 1)
        rw [wdsL_take_succ ht] at this
        exact this
      have hEr := HE.out.keep hk.drew
      have HC := Lib.hid (HIH.out i t u' ht (by rw [hws]; exact hu') nl wr.drew F gh g lim gl gp gb hEr (hnl ▸ hl) (by omega) hnl1)
      obtain ⟨G, vs, hV, hG, hRw⟩ := hrow
      have HV := Lib.hid hV; have HGG := Lib.hid hG; have HRw := Lib.hid hRw; have HUT := Lib.hid ht; have HER := Lib.hid hEr
      have hS0 : wr.drew.cell? ⟨G8, 3, none⟩ = some (.slice A3 ts.length c3) ∧ wr.drew.cell? ⟨gb, 0, none⟩ = some (.func (.func 41) #[] #[.pointer (some ⟨gl, 0, none⟩), .pointer (some ⟨gp, 0, none⟩), .pointer (some ⟨gb, 0, none⟩)]) := ⟨hg.cell 3, hEr.bb.cell 0⟩
      have b1 : ts.length + 1 ≤ maxLen := by unfold maxLen; omega
      have b2 : (ts.length + 1) * 56 ≤ 140737488355328 := by omega
      have hi0 : (0 : Int) ≤ (i : Int) := by omega
      have him : (i : Int) < (m : Int) := by omega
      clear hl hz hg hk hu' ht huv hV hG hRw hll hts hnl hle hEr hwi h1' hw0 hws
      go_wp2_with fail
      refine Zed.begin (S := fun wx => wx.cell? ⟨G8, 3, none⟩ = some (.slice A3 ts.length c3) ∧ wx.cell? ⟨gb, 0, none⟩ = some (.func (.func 41) #[] #[.pointer (some ⟨gl, 0, none⟩), .pointer (some ⟨gp, 0, none⟩), .pointer (some ⟨gb, 0, none⟩)])) (z := 8) (by kernel_rfl) hS0 (fun hHeld => ?_)
      refine Zed.take (i := 0) (oi := ⟨some 68, _, _, _, _, _⟩) (v := ?_) rfl (by kernel_rfl) (by kernel_rfl) (by kernel_rfl) (by kernel_rfl) (fun _ _ _ h => h) (Or.inl ⟨by rfl, ?_⟩) (by assumption) ?_
      rotate_left
      · intro wS hSw; obtain ⟨hSa, hSb⟩ := hSw; go_simp; try with_reducible rfl
      try simp only [Act.put, List.setIfInBounds_toArray, List.set_cons_zero, List.set_cons_succ]
      refine Zed.take (i := 1) (oi := ⟨some 69, _, _, _, _, _⟩) (v := ?_) rfl (by kernel_rfl) (by kernel_rfl) (by kernel_rfl) (by kernel_rfl) (fun _ _ _ h => h) (Or.inl ⟨by rfl, ?_⟩) (by assumption) ?_
      rotate_left
      · intro wS hSw; obtain ⟨hSa, hSb⟩ := hSw; go_simp; try with_reducible rfl
      try simp only [Act.put, List.setIfInBounds_toArray, List.set_cons_zero, List.set_cons_succ]
      refine Zed.take (i := 2) (oi := ⟨some 70, _, _, _, _, _⟩) (v := ?_) rfl (by kernel_rfl) (by kernel_rfl) (by kernel_rfl) (by kernel_rfl) (fun _ _ _ h => h) (Or.inl ⟨by rfl, ?_⟩) (by assumption) ?_
      rotate_left
      · intro wS hSw; obtain ⟨hSa, hSb⟩ := hSw; go_simp; try with_reducible rfl
      try simp only [Act.put, List.setIfInBounds_toArray, List.set_cons_zero, List.set_cons_succ]
      refine Zed.take (i := 3) (oi := ⟨some 71, _, _, _, _, _⟩) (v := ?_) rfl (by kernel_rfl) (by kernel_rfl) (by kernel_rfl) (by kernel_rfl) (fun _ _ _ h => h) (Or.inl ⟨by rfl, ?_⟩) (by assumption) ?_
      rotate_left
      · intro wS hSw; obtain ⟨hSa, hSb⟩ := hSw; go_simp; try with_reducible rfl
      try simp only [Act.put, List.setIfInBounds_toArray, List.set_cons_zero, List.set_cons_succ]
      refine Zed.ready (rs := [4]) (by kernel_rfl) (by simp) ?_
      refine Zeach.cons (o := ⟨some 72, _, _, _, _, _⟩) rfl (fun K hK => ?_) Zeach.nil
      go_simp
      go_at_call 41
      refine HC.out.mono ?_
      rintro e w6 hpost
      obtain ⟨k6, m6, s6, A6, l6, c6, rfl, hk6, ht6, hb6⟩ := hpost.form
      have hk6r := (Keep.refl (fun b => b = gl) wr).drew.trans hk6 (fun _ _ h => h)
      have hg6 := HG.out.keep hk6r hn8
      have hf6 := (HER.out.keep hk6).bb
      have hS6 : w6.cell? ⟨G8, 3, none⟩ = some (.slice A3 ts.length c3) := hg6.cell 3
      have hS7 : ∀ o, (w6.alloc o).cell? ⟨G8, 3, none⟩ = some (.slice A3 ts.length c3) := fun o => (hg6.alloc o).cell 3
      have hF6 := hf6.cell 0
      have hF7 := fun o => (hf6.alloc o).cell 0
      have HK6 := Lib.hid hk6r; have HG6 := Lib.hid hg6; have HT6 := Lib.hid ht6; have HB6 := Lib.hid hb6; have HS7 := Lib.hid hS7; have HF6 := Lib.hid hF6; have HF7 := Lib.hid hF7; have HFB := Lib.hid hf6
      clear hpost hk6 hk6r hg6 ht6 hb6 hS7 hF6 hF7 hf6
      go_wp2_with fail
      refine hK.out _ _ ⟨hS6, HF6.out⟩ (fun hHeld => ?_)
      clear hK K
      try simp only [Act.put, List.setIfInBounds_toArray, List.set_cons_zero, List.set_cons_succ]
      refine Zed.ready (rs := [5]) (by kernel_rfl) (by simp) ?_
      refine Zeach.cons (o := ⟨some 73, _, _, _, _, _⟩) rfl (fun K hK => ?_) Zeach.nil
      go_simp
      refine hK.out _ _ ⟨HS7.out _, HF7.out _⟩ (fun hHeld => ?_)
      clear hK K
      try simp only [Act.put, List.setIfInBounds_toArray, List.set_cons_zero, List.set_cons_succ]
      refine Zed.ready (rs := [6]) (by kernel_rfl) (by simp) ?_
      refine Zeach.cons (o := ⟨some 74, _, _, _, _, _⟩) rfl (fun K hK => ?_) Zeach.nil
      have hR7 := (ownsRow_keep HRw.out HK6.out (fun r hr (e : r = gl) => by have := (HRw.out.lt r hr).1; omega)).alloc (.cells #[.int .i64 k6, .int .i64 m6, .string s6, .slice A6 l6 c6] 28)
      have hc4 := cells4_new w6 (.int .i64 k6) (.int .i64 m6) (.string s6) (.slice A6 l6 c6) 28
      have b3 : G8 + 1 ≤ (w6.alloc (.cells #[.int .i64 k6, .int .i64 m6, .string s6, .slice A6 l6 c6] 28)).heap.size := by have := HG6.out.lt; simp; omega
      obtain ⟨v3, w3, run3, hR3, hg3, _, hat3⟩ := run_append_own_at (P := Try.prog) (w6.alloc (.cells #[.int .i64 k6, .int .i64 m6, .string s6, .slice A6 l6 c6] 28)) (G8 + 1) 26 26 28 i0 _ 4 56 Try.underlying26 hin hy0 hy1 hy2 rfl (by decide) (.slice A3 ts.length c3) ts.length _ hR7 ⟨w6.heap.size, 0, none⟩ 1 1 [.int .i64 k6, .int .i64 m6, .string s6, .slice A6 l6 c6] rfl hc4 (one4 _ _ _ _ _ _) b1 b2 b3
      obtain ⟨A5, c5, rfl, _, _⟩ := ownsRow_form hR3
      have hg23 := (HG6.out.alloc (.cells #[.int .i64 k6, .int .i64 m6, .string s6, .slice A6 l6 c6] 28)).grown hg3 (fun e => by have := (HRw.out.lt _ e.symm).1; omega)
      have hfb3 := (HFB.out.alloc (.cells #[.int .i64 k6, .int .i64 m6, .string s6, .slice A6 l6 c6] 28)).grown hg3 (fun e => by have := (HRw.out.lt _ e.symm).1; have := HE.out.bb.lt; omega)
      have hF8 := hfb3.cell 0
      obtain ⟨x0, x1, x2, x3, y0, y1, y2, y3⟩ := hg23.four
      have HKP := Lib.hid (fun v => g_keeps hgl hlz2 HZR.out HG.out HKR.out HK6.out hg3 (fun r hr => HRw.out.lt r hr) v)
      have HR3 := Lib.hid hR3; have HG3 := Lib.hid hg3; have HAT3 := Lib.hid hat3
      clear hR3 hg3 hat3 hg23 hR7 hc4 b3 hfb3
      refine step_append_run (.tmp 69) (.tmp 73) 26 _ _ _ run3 rfl rfl (by simp [Act.eval, Act.put]) (by simp [Act.eval, Act.put]) ?_
      refine hK.out _ _ ⟨x3, hF8⟩ (fun hHeld => ?_)
      clear hK K
      try simp only [Act.put, List.setIfInBounds_toArray, List.set_cons_zero, List.set_cons_succ]
      refine Zed.take (i := 7) (oi := ⟨some 75, _, _, _, _, _⟩) (v := ?_) rfl (by kernel_rfl) (by kernel_rfl) (by kernel_rfl) (by kernel_rfl) (fun _ _ _ h => h) (Or.inl ⟨by rfl, ?_⟩) (by assumption) ?_
      rotate_left
      · intro wS hSw; obtain ⟨hSa, hSb⟩ := hSw; go_simp; try with_reducible rfl
      try simp only [Act.put, List.setIfInBounds_toArray, List.set_cons_zero, List.set_cons_succ]
      refine Zed.ready (rs := [8]) (by kernel_rfl) (by simp) ?_
      refine Zeach.last (o := ⟨none, _, _, _, _, _⟩) rfl (fun K hK => ?_)
      go_simp
      refine hK.out _ _ ?_
      clear hK K
      try simp only [Act.put, List.setIfInBounds_toArray, List.set_cons_zero, List.set_cons_succ]
      refine Zed.done (by kernel_rfl) ?_ _
      have HI := Lib.hid (GI.step (i := i) hgl hlz2 HTS.out.symm HUT.out HZR.out HG.out HKR.out HV.out HGG.out HRw.out HK6.out HT6.out (HNL.out ▸ HB6.out) HG3.out HR3.out HAT3.out)
      obtain ⟨w9, hw9⟩ : ∃ x, w3.setCell ⟨G8, 3, none⟩ (.slice A5 (ts.length + 1) c5) = x := ⟨_, rfl⟩
      rw [hw9] at HI ⊢
      clear hw9 x0 x1 x2 x3 y0 y1 y2 y3 hS6 run3 HKP HR3 HG3 HAT3
      go_wp2_with fail
      exact ⟨⟨i + 1, by omega, by go_num, HI.out⟩, by simp [intOf]; omega⟩
    · obtain rfl : i = m := by omega
      have hfull : l.take i = l := List.take_of_length_le (by have := HLM.out; omega)
      rw [hfull] at hl hts
      subst hts
      have HD := Lib.hid (GI.done (k := 7) (x := 0) (n := n - 1 - 1) (n0 := n) hgl hlz2 (by decide) (by decide) (by have := HWD.out; omega) hl hrow hk)
      obtain ⟨z0, z1, z2, z3, t0, t1, t2, t3⟩ := hz.four
      obtain ⟨o0, o1, o2, o3, _, _, _, _⟩ := hg.four
      clear hl hz hg hrow hk hll hnl hfull
      go_wp2_with fail
      obtain ⟨r0, r1, r2, r3, _, _, _, _⟩ := (put4_blk HZR.out (.int .i64 7) (.int .i64 0) (.string ⟨#[]⟩) (.slice A3 l.length c3)).four
      unfold put4 at r0 r1 r2 r3
      try rw [Exit.noGoto_ret]
      exact bodyPost_ret (v := .agg #[.int .i64 7, .int .i64 0, .string ⟨#[]⟩, .slice A3 l.length c3]) (by simp [results, Try.results41, go_sem, r0, r1, r2, r3]) rfl HD.out
set_option maxRecDepth 100000 in
set_option maxHeartbeats 8000000 in
theorem build_box5 (x : It) (p : Nat) (l : List Tm) (u n : Int) (w : World) (F : Nat → Prop) (gh g : Nat) (L : List ByteArray) (lim : Int) (H : List It) (gl gp gb : Nat) (hE : GE w F gh g L lim H gl gp gb) (hL : Blk w gl 3 #[.int .i64 n]) (hu : U64 u) (hk : unK u = 5) (hn : unN u = (p : Int)) (hy : unE u = 0) (hxk : x.k = 5) (hat : itAt H (p : Int) = some x) (hl : x.ws.length = l.length) (IH : ∀ (i : Nat) (t : Tm) (v : Int), l[i]? = some t → x.ws[i]? = some v → BuildAt L H t v) (h1 : wds (.mk 5 x.n ⟨#[]⟩ l) ≤ n) (h6 : n ≤ 65536) : Calls Try.prog 41 #[.int .u64 u, .pointer (some ⟨gl, 0, none⟩), .pointer (some ⟨gp, 0, none⟩), .pointer (some ⟨gb, 0, none⟩)] w (BP w gl (.mk 5 x.n ⟨#[]⟩ l) n) := by
  have hok := hE.hp.1.wf.ok x (itAt_mem hat)
  have HPT := Lib.hid (fun (w' : World) (h : GE w' F gh g L lim H gl gp gb) => parts_hp h.hp hu (hk.trans hxk.symm) (hn ▸ hat))
  have hlen := hok.len
  have HWD := Lib.hid (show wds (.mk 5 x.n ⟨#[]⟩ l) = 2 + wdsL l from by rw [wds_mk]; unfold ownN hasB; simp)
  have HUR := Lib.hid (un_range hu)
  obtain ⟨g0, g1⟩ := hok.fn hxk
  obtain ⟨xn, hxn⟩ : ∃ xn, x.n = xn := ⟨_, rfl⟩
  have HIT := Lib.hid (show itN x = xn from by unfold itN; rw [if_neg (by omega), if_pos hxk, hxn])
  rw [hxn] at h1 HWD g0 g1 ⊢
  have hwn : (Lit.int .i64 xn).wf = true := WalkArith.wf_i64 (by omega)
  obtain ⟨m, hm⟩ : ∃ m, x.ws.length = m := ⟨_, rfl⟩
  have hlm : l.length = m := by omega
  rw [hm] at hlen
  have h1' : wdsL l + 2 ≤ n := by have := HWD.out; omega
  have hw0 := (wdsL_range l).1
  have HM := Lib.hid hm; have HLM := Lib.hid hlm; have HIH := Lib.hid IH
  obtain ⟨ws, hws⟩ : ∃ ws, x.ws = ws := ⟨_, rfl⟩
  clear hok hat hl IH hm hlm h1 hxk hxn
  have HUN := Lib.hid (fun w => unpack_as hu hk hn hy w)
  have hgl : gl < w.heap.size := hL.lt
  have hz := Blk.new w 28 #[.int .i64 0, .int .i64 0, .string ⟨#[]⟩, .slice none 0 0]
  have hb0 := ballocs (Below.refl w.heap.size w) (.cells #[.int .i64 0, .int .i64 0, .string ⟨#[]⟩, .slice none 0 0] 28)
  have HZ := Lib.hid hz; have HB0 := Lib.hid hb0; have HE := Lib.hid hE; have HL := Lib.hid hL
  clear hz hb0 hL hk hn hy hE
  go_enter Try.func41, Try.ntmps41
  go_wp2_with fail
  obtain ⟨w1, hw1⟩ : ∃ x, w.alloc (.cells #[.int .i64 0, .int .i64 0, .string ⟨#[]⟩, .slice none 0 0] 28) = x := ⟨_, rfl⟩
  rw [hw1] at HZ HB0 ⊢
  clear hw1
  go_step3
  go_wp2_with fail
  refine (HUN.out w1).mono ?_
  rintro e w2 ⟨rfl, hb2⟩
  have hr2 := (HL.out.below HB0.out HL.out.lt).below hb2 (Nat.lt_of_lt_of_le HL.out.lt HB0.out.size)
  have hz2 := HZ.out.below hb2 HZ.out.lt
  have hlt2 : gl < w2.heap.size := Blk.lt hr2
  have hlz2 : w.heap.size < w2.heap.size := hz2.lt
  have q0 : w2.cell? ⟨gl, 0, none⟩ = some (.int .i64 n) := by rw [hr2.cell]; rfl
  have f0 := hr2.frozen 0
  obtain ⟨z0, z1, z2, z3, y0, y1, y2, y3⟩ := hz2.four
  have hb02 := fbelow HB0.out hb2
  have hE2 := HE.out.below hb02
  have p0 : w2.cell? ⟨gp, 0, none⟩ = some (.pointer (some ⟨gh, 0, none⟩)) := by rw [hE2.bp.cell]; rfl
  have hgp2 : gp < w2.heap.size := hE2.bp.lt
  have hnp := HE.out.np
  have HB02 := Lib.hid hb02; have HR2 := Lib.hid hr2; have HZ2 := Lib.hid hz2
  clear hb2 hr2 hz2 hb02 hE2
  go_wp2_with fail
  obtain ⟨hg3, hz3, hl3, hk3⟩ := left_new2 (m := n - 1 - 1) (cs := #[.int .i64 5, .int .i64 (p : Int), .string ⟨#[]⟩, .slice none 0 0]) HB02.out HZ2.out HR2.out hgl
  obtain ⟨w3, hw3⟩ : ∃ x, ((w2.setCell ⟨gl, 0, none⟩ (.int .i64 (n - 1))).setCell ⟨gl, 0, none⟩ (.int .i64 (n - 1 - 1))).alloc (.cells #[.int .i64 5, .int .i64 (p : Int), .string ⟨#[]⟩, .slice none 0 0] 28) = x := ⟨_, rfl⟩
  rw [hw3] at hg3 hz3 hl3 hk3 ⊢
  clear hw3
  obtain ⟨G8, hG8⟩ : ∃ G8, w2.heap.size = G8 := ⟨_, rfl⟩
  rw [hG8] at hg3 hlt2 hlz2 ⊢
  have hn8 : G8 ≠ gl := by omega
  have hn81 : G8 ≠ w.heap.size := by omega
  have hE3 := HE.out.keep hk3
  have HPC := Lib.hid (HPT.out w3 hE3)
  have HG3 := Lib.hid hg3; have HZ3 := Lib.hid hz3; have HL3 := Lib.hid hl3; have HK3 := Lib.hid hk3; have HE3 := Lib.hid hE3
  clear hg3 hz3 hl3 hk3 hE3 q0 f0 z0 z1 z2 z3 y0 y1 y2 y3 p0 hG8 hgp2
  refine HPC.out.mono ?_
  rintro e w5 ⟨r, hFr, A', c', he, hb5, ha5, h05, hc5, hr5⟩
  have hrl : r < w.heap.size := HE.out.hp.lt r hFr
  have hrn : r ≠ gl := fun e => HE.out.nl (e ▸ hFr)
  rw [HIT.out, HM.out] at he
  subst he
  rw [HM.out] at hr5 hc5
  have HWS := Lib.hid (fun wr (hk : Keep (fun b => b = gl) w wr) => hr5 wr (fun j => (hk.cell (p := ⟨r, j, none⟩) hrl hrn).trans (HK3.out.cell (p := ⟨r, j, none⟩) hrl hrn).symm) (Nat.lt_of_lt_of_le hrl hk.size))
  have hg5 := HG3.out.below hb5 HG3.out.lt
  have hz5 := HZ3.out.below hb5 HZ3.out.lt
  have hl5 := HL3.out.below hb5 HL3.out.lt
  have hk5 := HK3.out.trans (Keep.new (F := fun b => b = gl) hb5) (fun _ _ h => h)
  clear hr5 hb5 ha5 h05 HG3 HZ3 HL3 HK3
  obtain ⟨o0, o1, o2, o3, u0, u1, u2, u3⟩ := hg5.four
  obtain ⟨z0, z1, z2, z3, y0, y1, y2, y3⟩ := hz5.four
  have q0 : w5.cell? ⟨gl, 0, none⟩ = some (.int .i64 (n - 1 - 1)) := by rw [hl5.cell]; rfl
  have hlt5 : gl < w5.heap.size := hl5.lt
  have hl85 : G8 < w5.heap.size := hg5.lt
  obtain ⟨hg6, hz6, hl6, hk6⟩ := g8_set (m := 0) hg5 hz5 hl5 hk5 hn8 hlz2
  obtain ⟨hg6, hz6, hl6, hk6⟩ := g8_set (m := xn) hg6 hz6 hl6 hk6 hn8 hlz2
  have HI0 := Lib.hid (show GI w _ gl l G8 5 xn (n - 1 - 1) 0 from ⟨_, by rw [List.take_zero, wdsL_nil, Int.sub_zero]; exact hl6, hz6, hg6, TRow.none_ _ _ _, hk6⟩)
  have HZ5 := Lib.hid hz5; have HG5 := Lib.hid hg5
  clear hg5 hz5 hl5 hk5 hg6 hz6 hl6 hk6
  obtain ⟨i0, hin, hy0, hy1, hy2⟩ := info_parts infoT
  go_wp2_with fail
  go_step3
  go_wp2_with fail
  go_loopw [62] (fun x wr => ∃ i : Nat, i ≤ m ∧ x = .int .i64 (i : Int) ∧ GI w wr gl l G8 5 xn (n - 1 - 1) i) (fun x _ => m - (intOf x).toNat)
  case atStart => exact ⟨0, Nat.zero_le _, rfl, HI0.out⟩
  case round =>
    obtain ⟨i, hi, rfl, row, hl, hz, hg, hrow, hk⟩ := hrel
    clear HI0
    obtain ⟨ts, hts⟩ : ∃ ts, l.take i = ts := ⟨_, rfl⟩
    rw [hts] at hrow
    have hll : ts.length = i := by have := HLM.out; rw [← hts, List.length_take]; omega
    obtain ⟨A3, c3, rfl, _, _, _⟩ := hrow.form
    have hwi : wdsL (l.take i) ≤ wdsL l := wdsL_take_le l i
    obtain ⟨nl, hnl⟩ : ∃ nl, n - 1 - 1 - wdsL (l.take i) = nl := ⟨_, rfl⟩
    have hnl0 : 0 ≤ nl := by omega
    have hnl1 : nl ≤ 65536 := by have := (wdsL_range (l.take i)).1; omega
    have qq : wr.cell? ⟨gl, 0, none⟩ = some (.int .i64 nl) := by rw [← hnl, hl.cell]; rfl
    have HG := Lib.hid hg; have HZR := Lib.hid hz; have HKR := Lib.hid hk; have HLL := Lib.hid hll; have HLR := Lib.hid hl; have HTS := Lib.hid hts; have HNL := Lib.hid hnl
    have hlr : gl < wr.heap.size := hl.lt
    have hl8r : G8 < wr.heap.size := hg.lt
    by_cases hlt : i < m
    · obtain ⟨u', hu'⟩ : ∃ u', ws[i]? = some u' := ⟨_, List.getElem?_eq_getElem (by have := HM.out; rw [hws] at this; omega)⟩
      obtain ⟨t, ht⟩ : ∃ t, l[i]? = some t := ⟨_, List.getElem?_eq_getElem (by have := HLM.out; omega)⟩
      obtain ⟨ad, uv, rfl, hab, huv, hcell⟩ := (HWS.out wr hk).at_ (k := i) hlt
      obtain rfl : uv = .int .u64 u' := u64_at (by rw [hws]; exact hu') huv
      have hle : wdsL (l.take i) + wds t ≤ wdsL l := by
        have := wdsL_take_le l (i + 1)
        rw [wdsL_take_succ ht] at this
        exact this
      have hEr := HE.out.keep hk.drew
      have HC := Lib.hid (HIH.out i t u' ht (by rw [hws]; exact hu') nl wr.drew F gh g lim gl gp gb hEr (hnl ▸ hl) (by omega) hnl1)
      obtain ⟨G, vs, hV, hG, hRw⟩ := hrow
      have HV := Lib.hid hV; have HGG := Lib.hid hG; have HRw := Lib.hid hRw; have HUT := Lib.hid ht; have HER := Lib.hid hEr
      have hS0 : wr.drew.cell? ⟨G8, 3, none⟩ = some (.slice A3 ts.length c3) ∧ wr.drew.cell? ⟨gb, 0, none⟩ = some (.func (.func 41) #[] #[.pointer (some ⟨gl, 0, none⟩), .pointer (some ⟨gp, 0, none⟩), .pointer (some ⟨gb, 0, none⟩)]) := ⟨hg.cell 3, hEr.bb.cell 0⟩
      have b1 : ts.length + 1 ≤ maxLen := by unfold maxLen; omega
      have b2 : (ts.length + 1) * 56 ≤ 140737488355328 := by omega
      have hi0 : (0 : Int) ≤ (i : Int) := by omega
      have him : (i : Int) < (m : Int) := by omega
      clear hl hz hg hk hu' ht huv hV hG hRw hll hts hnl hle hEr hwi h1' hw0 hws
      go_wp2_with fail
      refine Zed.begin (S := fun wx => wx.cell? ⟨G8, 3, none⟩ = some (.slice A3 ts.length c3) ∧ wx.cell? ⟨gb, 0, none⟩ = some (.func (.func 41) #[] #[.pointer (some ⟨gl, 0, none⟩), .pointer (some ⟨gp, 0, none⟩), .pointer (some ⟨gb, 0, none⟩)])) (z := 8) (by kernel_rfl) hS0 (fun hHeld => ?_)
      refine Zed.take (i := 0) (oi := ⟨some 68, _, _, _, _, _⟩) (v := ?_) rfl (by kernel_rfl) (by kernel_rfl) (by kernel_rfl) (by kernel_rfl) (fun _ _ _ h => h) (Or.inl ⟨by rfl, ?_⟩) (by assumption) ?_
      rotate_left
      · intro wS hSw; obtain ⟨hSa, hSb⟩ := hSw; go_simp; try with_reducible rfl
      try simp only [Act.put, List.setIfInBounds_toArray, List.set_cons_zero, List.set_cons_succ]
      refine Zed.take (i := 1) (oi := ⟨some 69, _, _, _, _, _⟩) (v := ?_) rfl (by kernel_rfl) (by kernel_rfl) (by kernel_rfl) (by kernel_rfl) (fun _ _ _ h => h) (Or.inl ⟨by rfl, ?_⟩) (by assumption) ?_
      rotate_left
      · intro wS hSw; obtain ⟨hSa, hSb⟩ := hSw; go_simp; try with_reducible rfl
      try simp only [Act.put, List.setIfInBounds_toArray, List.set_cons_zero, List.set_cons_succ]
      refine Zed.take (i := 2) (oi := ⟨some 70, _, _, _, _, _⟩) (v := ?_) rfl (by kernel_rfl) (by kernel_rfl) (by kernel_rfl) (by kernel_rfl) (fun _ _ _ h => h) (Or.inl ⟨by rfl, ?_⟩) (by assumption) ?_
      rotate_left
      · intro wS hSw; obtain ⟨hSa, hSb⟩ := hSw; go_simp; try with_reducible rfl
      try simp only [Act.put, List.setIfInBounds_toArray, List.set_cons_zero, List.set_cons_succ]
      refine Zed.take (i := 3) (oi := ⟨some 71, _, _, _, _, _⟩) (v := ?_) rfl (by kernel_rfl) (by kernel_rfl) (by kernel_rfl) (by kernel_rfl) (fun _ _ _ h => h) (Or.inl ⟨by rfl, ?_⟩) (by assumption) ?_
      rotate_left
      · intro wS hSw; obtain ⟨hSa, hSb⟩ := hSw; go_simp; try with_reducible rfl
      try simp only [Act.put, List.setIfInBounds_toArray, List.set_cons_zero, List.set_cons_succ]
      refine Zed.ready (rs := [4]) (by kernel_rfl) (by simp) ?_
      refine Zeach.cons (o := ⟨some 72, _, _, _, _, _⟩) rfl (fun K hK => ?_) Zeach.nil
      go_simp
      go_at_call 41
      refine HC.out.mono ?_
      rintro e w6 hpost
      obtain ⟨k6, m6, s6, A6, l6, c6, rfl, hk6, ht6, hb6⟩ := hpost.form
      have hk6r := (Keep.refl (fun b => b = gl) wr).drew.trans hk6 (fun _ _ h => h)
      have hg6 := HG.out.keep hk6r hn8
      have hf6 := (HER.out.keep hk6).bb
      have hS6 : w6.cell? ⟨G8, 3, none⟩ = some (.slice A3 ts.length c3) := hg6.cell 3
      have hS7 : ∀ o, (w6.alloc o).cell? ⟨G8, 3, none⟩ = some (.slice A3 ts.length c3) := fun o => (hg6.alloc o).cell 3
      have hF6 := hf6.cell 0
      have hF7 := fun o => (hf6.alloc o).cell 0
      have HK6 := Lib.hid hk6r; have HG6 := Lib.hid hg6; have HT6 := Lib.hid ht6; have HB6 := Lib.hid hb6; have HS7 := Lib.hid hS7; have HF6 := Lib.hid hF6; have HF7 := Lib.hid hF7; have HFB := Lib.hid hf6
      clear hpost hk6 hk6r hg6 ht6 hb6 hS7 hF6 hF7 hf6
      go_wp2_with fail
      refine hK.out _ _ ⟨hS6, HF6.out⟩ (fun hHeld => ?_)
      clear hK K
      try simp only [Act.put, List.setIfInBounds_toArray, List.set_cons_zero, List.set_cons_succ]
      refine Zed.ready (rs := [5]) (by kernel_rfl) (by simp) ?_
      refine Zeach.cons (o := ⟨some 73, _, _, _, _, _⟩) rfl (fun K hK => ?_) Zeach.nil
      go_simp
      refine hK.out _ _ ⟨HS7.out _, HF7.out _⟩ (fun hHeld => ?_)
      clear hK K
      try simp only [Act.put, List.setIfInBounds_toArray, List.set_cons_zero, List.set_cons_succ]
      refine Zed.ready (rs := [6]) (by kernel_rfl) (by simp) ?_
      refine Zeach.cons (o := ⟨some 74, _, _, _, _, _⟩) rfl (fun K hK => ?_) Zeach.nil
      have hR7 := (ownsRow_keep HRw.out HK6.out (fun r hr (e : r = gl) => by have := (HRw.out.lt r hr).1; omega)).alloc (.cells #[.int .i64 k6, .int .i64 m6, .string s6, .slice A6 l6 c6] 28)
      have hc4 := cells4_new w6 (.int .i64 k6) (.int .i64 m6) (.string s6) (.slice A6 l6 c6) 28
      have b3 : G8 + 1 ≤ (w6.alloc (.cells #[.int .i64 k6, .int .i64 m6, .string s6, .slice A6 l6 c6] 28)).heap.size := by have := HG6.out.lt; simp; omega
      obtain ⟨v3, w3, run3, hR3, hg3, _, hat3⟩ := run_append_own_at (P := Try.prog) (w6.alloc (.cells #[.int .i64 k6, .int .i64 m6, .string s6, .slice A6 l6 c6] 28)) (G8 + 1) 26 26 28 i0 _ 4 56 Try.underlying26 hin hy0 hy1 hy2 rfl (by decide) (.slice A3 ts.length c3) ts.length _ hR7 ⟨w6.heap.size, 0, none⟩ 1 1 [.int .i64 k6, .int .i64 m6, .string s6, .slice A6 l6 c6] rfl hc4 (one4 _ _ _ _ _ _) b1 b2 b3
      obtain ⟨A5, c5, rfl, _, _⟩ := ownsRow_form hR3
      have hg23 := (HG6.out.alloc (.cells #[.int .i64 k6, .int .i64 m6, .string s6, .slice A6 l6 c6] 28)).grown hg3 (fun e => by have := (HRw.out.lt _ e.symm).1; omega)
      have hfb3 := (HFB.out.alloc (.cells #[.int .i64 k6, .int .i64 m6, .string s6, .slice A6 l6 c6] 28)).grown hg3 (fun e => by have := (HRw.out.lt _ e.symm).1; have := HE.out.bb.lt; omega)
      have hF8 := hfb3.cell 0
      obtain ⟨x0, x1, x2, x3, y0, y1, y2, y3⟩ := hg23.four
      have HKP := Lib.hid (fun v => g_keeps hgl hlz2 HZR.out HG.out HKR.out HK6.out hg3 (fun r hr => HRw.out.lt r hr) v)
      have HR3 := Lib.hid hR3; have HG3 := Lib.hid hg3; have HAT3 := Lib.hid hat3
      clear hR3 hg3 hat3 hg23 hR7 hc4 b3 hfb3
      refine step_append_run (.tmp 69) (.tmp 73) 26 _ _ _ run3 rfl rfl (by simp [Act.eval, Act.put]) (by simp [Act.eval, Act.put]) ?_
      refine hK.out _ _ ⟨x3, hF8⟩ (fun hHeld => ?_)
      clear hK K
      try simp only [Act.put, List.setIfInBounds_toArray, List.set_cons_zero, List.set_cons_succ]
      refine Zed.take (i := 7) (oi := ⟨some 75, _, _, _, _, _⟩) (v := ?_) rfl (by kernel_rfl) (by kernel_rfl) (by kernel_rfl) (by kernel_rfl) (fun _ _ _ h => h) (Or.inl ⟨by rfl, ?_⟩) (by assumption) ?_
      rotate_left
      · intro wS hSw; obtain ⟨hSa, hSb⟩ := hSw; go_simp; try with_reducible rfl
      try simp only [Act.put, List.setIfInBounds_toArray, List.set_cons_zero, List.set_cons_succ]
      refine Zed.ready (rs := [8]) (by kernel_rfl) (by simp) ?_
      refine Zeach.last (o := ⟨none, _, _, _, _, _⟩) rfl (fun K hK => ?_)
      go_simp
      refine hK.out _ _ ?_
      clear hK K
      try simp only [Act.put, List.setIfInBounds_toArray, List.set_cons_zero, List.set_cons_succ]
      refine Zed.done (by kernel_rfl) ?_ _
      have HI := Lib.hid (GI.step (i := i) hgl hlz2 HTS.out.symm HUT.out HZR.out HG.out HKR.out HV.out HGG.out HRw.out HK6.out HT6.out (HNL.out ▸ HB6.out) HG3.out HR3.out HAT3.out)
      obtain ⟨w9, hw9⟩ : ∃ x, w3.setCell ⟨G8, 3, none⟩ (.slice A5 (ts.length + 1) c5) = x := ⟨_, rfl⟩
      rw [hw9] at HI ⊢
      clear hw9 x0 x1 x2 x3 y0 y1 y2 y3 hS6 run3 HKP HR3 HG3 HAT3
      go_wp2_with fail
      exact ⟨⟨i + 1, by omega, by go_num, HI.out⟩, by simp [intOf]; omega⟩
    · obtain rfl : i = m := by omega
      have hfull : l.take i = l := List.take_of_length_le (by have := HLM.out; omega)
      rw [hfull] at hl hts
      subst hts
      have HD := Lib.hid (GI.done (k := 5) (x := xn) (n := n - 1 - 1) (n0 := n) hgl hlz2 (by decide) hwn (by have := HWD.out; omega) hl hrow hk)
      obtain ⟨z0, z1, z2, z3, t0, t1, t2, t3⟩ := hz.four
      obtain ⟨o0, o1, o2, o3, _, _, _, _⟩ := hg.four
      clear hl hz hg hrow hk hll hnl hfull
      go_wp2_with fail
      obtain ⟨r0, r1, r2, r3, _, _, _, _⟩ := (put4_blk HZR.out (.int .i64 5) (.int .i64 xn) (.string ⟨#[]⟩) (.slice A3 l.length c3)).four
      unfold put4 at r0 r1 r2 r3
      try rw [Exit.noGoto_ret]
      exact bodyPost_ret (v := .agg #[.int .i64 5, .int .i64 xn, .string ⟨#[]⟩, .slice A3 l.length c3]) (by simp [results, Try.results41, go_sem, r0, r1, r2, r3]) rfl HD.out
theorem build_any {H : List It} {L : List ByteArray} {t : Tm} {u : Int} (h : Rep H L t u) : BuildAt L H t u := by
  induction h with
  | leaf k n w hk hu he h1 h2 =>
    intro m w' F gh g lim gl gp gb hE hL hw h6
    have := (wds_range (.mk k n ⟨#[]⟩ [])).1
    exact build_leaf k n hk w m w' F gh g L lim H gl gp gb hE hL hu h1 h2 he (by omega) h6
  | atom s w i hu he h1 h2 hs =>
    intro m w' F gh g lim gl gp gb hE hL hw h6
    have := (wds_range (.mk 2 0 s [])).1
    obtain ⟨_, FT, v, bm, N, D, hq, _⟩ := hE.hp
    obtain ⟨bm, v, D, fl, fg, fm, fv, hB, hM, hD, hR, hnd, hsz, hl4, hby⟩ := hq.tab
    exact build_atom s i w m w' F gh g L lim H gl gp gb hE hL hu h1 h2 he hs (by have := hsz s (List.mem_of_getElem? hs); unfold maxLen; omega) (by omega) h6
  | box x l w hu he hb h1 hx hl hp ih =>
    intro m w' F gh g lim gl gp gb hE hL hw h6
    have hok := hE.hp.1.wf.ok x (itAt_mem hx)
    obtain ⟨s1, _⟩ := itAt_seg hx
    obtain ⟨p, hp'⟩ : ∃ p : Nat, unN w = (p : Int) := ⟨(unN w).toNat, by omega⟩
    rw [hp'] at hx
    have hk3 := hb
    unfold boxK at hk3
    rcases hk3 with hk | hk | hk
    · rw [hk] at h1 hw ⊢
      exact build_box7 x p l w m w' F gh g L lim H gl gp gb hE hL hu h1 hp' he hk hx hl ih hw h6
    · rw [hk] at h1 hw ⊢
      exact build_box5 x p l w m w' F gh g L lim H gl gp gb hE hL hu h1 hp' he hk hx hl ih hw h6
    · rw [hk] at h1 hw ⊢
      exact build_box9 x p l w m w' F gh g L lim H gl gp gb hE hL hu h1 hp' he hk hx hl ih hw h6
theorem may_one (gh g : Nat) (L : List ByteArray) (lim : Int) (H : List It) (w : World) (F : Nat → Prop) (h : Hp w F gh g L lim H) (r : Nat) (u : Int) (hc : w.cell? ⟨r, 0, none⟩ = some (.int .u64 u)) (hu : U64 u) :
    Calls Try.prog 37 #[.pointer (some ⟨gh, 0, none⟩), .slice (some ⟨r, 0, none⟩) 1 1] w fun e w' => e = .returned (.bool (may H L.length u)) ∧ Below w.heap.size w w' := by
  have hr : Reads w w.heap.size 1 (some ⟨r, 0, none⟩) [u].length (u64s [u]) := ⟨rfl, fun _ => ⟨_, rfl, World.block_lt_of_cell? _ _ hc, fun j v hj => by
    cases j with
    | zero => simp [u64s] at hj; subst hj; exact hc
    | succ j => simp [u64s] at hj⟩⟩
  refine (may_any gh g L lim H w F h _ 1 [u] hr (fun x hx => by simp at hx; subst hx; exact hu) (by simp)).mono ?_
  rintro e w' ⟨rfl, hb⟩
  exact ⟨by simp, hb⟩
set_option maxRecDepth 100000 in
set_option maxHeartbeats 400000 in
theorem get_bad (gh g : Nat) (L : List ByteArray) (lim : Int) (H : List It) (u : Int) (w : World) (F : Nat → Prop) (h : Hp w F gh g L lim H) (hu : U64 u) (hm : may H L.length u = false) :
    Calls Try.prog 18 #[.pointer (some ⟨gh, 0, none⟩), .int .u64 u] w fun e w' => e = .returned (.tuple #[.agg #[.int .i64 0, .int .i64 0, .string ⟨#[]⟩, .slice none 0 0], .int .i64 4]) ∧ Below w.heap.size w w' := by
  obtain ⟨w0, hw0⟩ : ∃ x, (w.alloc (.cells #[.pointer (some ⟨gh, 0, none⟩)] 22)).alloc (.cells #[.int .i64 0, .int .i64 0, .string ⟨#[]⟩, .slice none 0 0] 28) = x := ⟨_, rfl⟩
  have hb0 : Below w.heap.size w w0 := by rw [← hw0]; exact ballocs (ballocs (Below.refl _ _) _) _
  have hz0 : w0.heap.size = w.heap.size + 1 + 1 := by rw [← hw0]; simp
  have hp0 : Blk w0 w.heap.size 22 #[.pointer (some ⟨gh, 0, none⟩)] := by rw [← hw0]; exact (Blk.new _ _ _).alloc _
  have hr0 : Blk w0 (w.heap.size + 1) 28 #[.int .i64 0, .int .i64 0, .string ⟨#[]⟩, .slice none 0 0] := by
    rw [← hw0]
    have := Blk.new (w.alloc (.cells #[.pointer (some ⟨gh, 0, none⟩)] 22)) 28 #[.int .i64 0, .int .i64 0, .string ⟨#[]⟩, .slice none 0 0]
    rw [World.size_alloc] at this
    exact this
  have h0 := h.below hb0
  obtain ⟨_, FT, v, bm, N, D, hq, _⟩ := h0
  obtain ⟨Av, cv, rfl, hc1, hc2, c0, c1, c2, c3⟩ := hq.cells
  have HN := Lib.hid (hnone_yes gh bm w0 c3)
  have HH := Lib.hid h; have HB0 := Lib.hid hb0; have HM := Lib.hid hm; have HP0 := Lib.hid hp0; have HR0 := Lib.hid hr0; have HZ0 := Lib.hid hz0; have HU := Lib.hid hu
  have p0 : w0.cell? ⟨w.heap.size, 0, none⟩ = some (.pointer (some ⟨gh, 0, none⟩)) := hp0.cell 0
  clear h hb0 hm hp0 hr0 hq c0 c1 c2 c3 hc1 hc2 hu hz0
  go_enter Try.func18, Try.ntmps18
  go_wp2_with fail
  refine HN.out.mono ?_
  rintro e w1 ⟨rfl, h1⟩
  obtain rfl : w0 = w1 := h1.symm
  have hb1 : Below w0.heap.size w0 (w0.alloc (.cells #[.int .u64 u] 31)) := ballocs (Below.refl _ _) _
  have HMY := Lib.hid (may_one gh g L lim H (w0.alloc (.cells #[.int .u64 u] 31)) F ((HH.out.below HB0.out).below hb1) w0.heap.size u (by have := (Blk.new w0 31 #[.int .u64 u]).cell 0; exact this) HU.out)
  clear hb1
  go_wp2_with fail
  refine HMY.out.mono ?_
  rintro e w2 ⟨he, hb2⟩
  rw [HM.out] at he
  subst he
  have hb02 := (HB0.out.trans ((ballocs (Below.refl w0.heap.size w0) (.cells #[.int .u64 u] 31)).mono HB0.out.size)).trans (hb2.mono (by have := HB0.out.size; simp; omega))
  have hr2 := (HR0.out.alloc (.cells #[.int .u64 u] 31)).below hb2 (by have := HR0.out.lt; simp; omega)
  obtain ⟨r0, r1, r2, r3, s0, s1, s2, s3⟩ := hr2.four
  have HB2 := Lib.hid hb02; have HR2 := Lib.hid hr2
  clear hb02 hb2 hr2 p0
  go_wp2_with fail
  obtain ⟨r0, r1, r2, r3, _, _, _, _⟩ := (put4_blk HR2.out (.int .i64 0) (.int .i64 0) (.string ⟨#[]⟩) (.slice none 0 0)).four
  unfold put4 at r0 r1 r2 r3
  try rw [Exit.noGoto_ret]
  refine bodyPost_ret (v := .tuple #[.agg #[.int .i64 0, .int .i64 0, .string ⟨#[]⟩, .slice none 0 0], .int .i64 4]) (by simp [results, Try.results18, go_sem, r0, r1, r2, r3]) rfl ?_
  exact ⟨rfl, put4_below HB2.out (by omega) _ _ _ _⟩
set_option maxRecDepth 100000 in
set_option maxHeartbeats 400000 in
theorem get_any (gh g : Nat) (L : List ByteArray) (lim : Int) (H : List It) (t : Tm) (u : Int) (w : World) (F : Nat → Prop) (h : Hp w F gh g L lim H) (hrep : Rep H L t u) (hw6 : wds t ≤ 65536) :
    Calls Try.prog 18 #[.pointer (some ⟨gh, 0, none⟩), .int .u64 u] w fun e w' => ∃ v, e = .returned (.tuple #[v, .int .i64 0]) ∧ TAt w' (Fr w w') t v ∧ Below w.heap.size w w' := by
  have hu := hrep.u64.1
  have hm := hrep.may
  have HREP := Lib.hid (build_any hrep)
  have hmf : ∀ (fn : Fn) (first cap : Array Value) (w : World), (Instr.makeFunc fn first cap).run Try.prog w = .ok (.func fn first cap) w := fun _ _ _ _ => rfl
  clear hrep
  obtain ⟨w0, hw0⟩ : ∃ x, (w.alloc (.cells #[.pointer (some ⟨gh, 0, none⟩)] 22)).alloc (.cells #[.int .i64 0, .int .i64 0, .string ⟨#[]⟩, .slice none 0 0] 28) = x := ⟨_, rfl⟩
  have hb0 : Below w.heap.size w w0 := by rw [← hw0]; exact ballocs (ballocs (Below.refl _ _) _) _
  have hz0 : w0.heap.size = w.heap.size + 1 + 1 := by rw [← hw0]; simp
  have hp0 : Blk w0 w.heap.size 22 #[.pointer (some ⟨gh, 0, none⟩)] := by rw [← hw0]; exact (Blk.new _ _ _).alloc _
  have hr0 : Blk w0 (w.heap.size + 1) 28 #[.int .i64 0, .int .i64 0, .string ⟨#[]⟩, .slice none 0 0] := by
    rw [← hw0]
    have := Blk.new (w.alloc (.cells #[.pointer (some ⟨gh, 0, none⟩)] 22)) 28 #[.int .i64 0, .int .i64 0, .string ⟨#[]⟩, .slice none 0 0]
    rw [World.size_alloc] at this
    exact this
  have h0 := h.below hb0
  obtain ⟨_, FT, v, bm, N, D, hq, _⟩ := h0
  obtain ⟨Av, cv, rfl, hc1, hc2, c0, c1, c2, c3⟩ := hq.cells
  have HN := Lib.hid (hnone_yes gh bm w0 c3)
  have HH := Lib.hid h; have HB0 := Lib.hid hb0; have HM := Lib.hid hm; have HP0 := Lib.hid hp0; have HR0 := Lib.hid hr0; have HZ0 := Lib.hid hz0; have HU := Lib.hid hu
  have p0 : w0.cell? ⟨w.heap.size, 0, none⟩ = some (.pointer (some ⟨gh, 0, none⟩)) := hp0.cell 0
  clear h hb0 hm hp0 hr0 hq c0 c1 c2 c3 hc1 hc2 hu hz0
  go_enter Try.func18, Try.ntmps18
  go_wp2_with fail
  refine HN.out.mono ?_
  rintro e w1 ⟨rfl, h1⟩
  obtain rfl : w0 = w1 := h1.symm
  have hb1 : Below w0.heap.size w0 (w0.alloc (.cells #[.int .u64 u] 31)) := ballocs (Below.refl _ _) _
  have HMY := Lib.hid (may_one gh g L lim H (w0.alloc (.cells #[.int .u64 u] 31)) F ((HH.out.below HB0.out).below hb1) w0.heap.size u (by have := (Blk.new w0 31 #[.int .u64 u]).cell 0; exact this) HU.out)
  clear hb1
  go_wp2_with fail
  refine HMY.out.mono ?_
  rintro e w2 ⟨he, hb2⟩
  rw [HM.out] at he
  subst he
  have hb02 := (HB0.out.trans ((ballocs (Below.refl w0.heap.size w0) (.cells #[.int .u64 u] 31)).mono HB0.out.size)).trans (hb2.mono (by have := HB0.out.size; simp; omega))
  have hr2 := (HR0.out.alloc (.cells #[.int .u64 u] 31)).below hb2 (by have := HR0.out.lt; simp; omega)
  obtain ⟨r0, r1, r2, r3, s0, s1, s2, s3⟩ := hr2.four
  have hp2 := (HP0.out.alloc (.cells #[.int .u64 u] 31)).below hb2 (by have := HP0.out.lt; simp; omega)
  have p2 : w2.cell? ⟨w.heap.size, 0, none⟩ = some (.pointer (some ⟨gh, 0, none⟩)) := hp2.cell 0
  have hz2 : w.heap.size + 1 < w2.heap.size := hr2.lt
  have HB2 := Lib.hid hb02; have HR2 := Lib.hid hr2; have HP2 := Lib.hid hp2
  clear hb02 hb2 hr2 p0 r0 r1 r2 r3 s0 s1 s2 s3 hp2
  go_wp2_with fail
  obtain ⟨w3, hw3⟩ : ∃ x, (w2.alloc (.cells #[.int .i64 65536] 3)).alloc (.cells #[.func (.func 41) #[] #[.pointer (some ⟨w2.heap.size, 0, none⟩), .pointer (some ⟨w.heap.size, 0, none⟩), .pointer (some ⟨w2.heap.size + 1, 0, none⟩)]] 85) = x := ⟨_, rfl⟩
  have hb3 : Below w2.heap.size w2 w3 := by rw [← hw3]; exact ballocs (ballocs (Below.refl _ _) _) _
  have hz3 : w3.heap.size = w2.heap.size + 1 + 1 := by rw [← hw3]; simp
  have hl3 : Blk w3 w2.heap.size 3 #[.int .i64 65536] := by rw [← hw3]; exact (Blk.new _ _ _).alloc _
  have hf3 : Blk w3 (w2.heap.size + 1) 85 #[.func (.func 41) #[] #[.pointer (some ⟨w2.heap.size, 0, none⟩), .pointer (some ⟨w.heap.size, 0, none⟩), .pointer (some ⟨w2.heap.size + 1, 0, none⟩)]] := by
    rw [← hw3]
    have := Blk.new (w2.alloc (.cells #[.int .i64 65536] 3)) 85 #[.func (.func 41) #[] #[.pointer (some ⟨w2.heap.size, 0, none⟩), .pointer (some ⟨w.heap.size, 0, none⟩), .pointer (some ⟨w2.heap.size + 1, 0, none⟩)]]
    rw [World.size_alloc] at this
    exact this
  rw [hw3]
  clear hw3
  obtain ⟨gl, hgl⟩ : ∃ gl, w2.heap.size = gl := ⟨_, rfl⟩
  rw [hgl] at hl3 hf3 hz3 hz2 ⊢
  have hbw3 := HB2.out.trans (hb3.mono HB2.out.size)
  have hgF : ∀ k, F k → k < w.heap.size := HH.out.lt
  have hE : GE w3 F gh g L lim H gl w.heap.size (gl + 1) := ⟨HH.out.below hbw3, HP2.out.below hb3 (by rw [hgl]; omega), hf3, fun hF => by have := hgF _ hF; omega, by omega, by omega⟩
  have hr3 := HR2.out.below hb3 (by rw [hgl]; exact hz2)
  have HR3 := Lib.hid hr3; have HBW3 := Lib.hid hbw3; have HZ3 := Lib.hid hz3
  have HC := Lib.hid (HREP.out 65536 w3 F gh g lim gl w.heap.size (gl + 1) hE hl3 hw6 (by omega))
  clear hr3 hbw3 hz3 hb3 hE hl3 hf3 p2 hgl
  refine HC.out.mono ?_
  rintro e w6 hpost
  obtain ⟨k6, m6, s6, A6, l6, c6, rfl, hk6, ht6, hl6⟩ := hpost.form
  have hr6 := HR3.out.keep hk6 (show ¬ w.heap.size + 1 = gl by omega)
  obtain ⟨r0, r1, r2, r3, s0, s1, s2, s3⟩ := hr6.four
  obtain ⟨nl, hnl⟩ : ∃ nl, 65536 - wds t = nl := ⟨_, rfl⟩
  have hnl0 : 0 ≤ nl := by omega
  rw [hnl] at hl6
  have q0 : w6.cell? ⟨gl, 0, none⟩ = some (.int .i64 nl) := hl6.cell 0
  have hgl6 : gl < w6.heap.size := hl6.lt
  have hr16 : w.heap.size + 1 < w6.heap.size := hr6.lt
  have HT6 := Lib.hid ht6; have HK6 := Lib.hid hk6; have HR6 := Lib.hid hr6
  clear hpost ht6 hk6 hr6 hl6 hnl
  go_wp2_with fail
  have hb4 := (put4_blk HR6.out (.int .i64 k6) (.int .i64 m6) (.string s6) (.slice A6 l6 c6)).alloc (.cells #[.int .i64 k6, .int .i64 m6, .string s6, .slice A6 l6 c6] 28)
  obtain ⟨r0, r1, r2, r3, _, _, _, _⟩ := hb4.four
  unfold put4 at r0 r1 r2 r3
  try rw [Exit.noGoto_ret]
  refine bodyPost_ret (v := .tuple #[.agg #[.int .i64 k6, .int .i64 m6, .string s6, .slice A6 l6 c6], .int .i64 0]) (by simp [results, Try.results18, go_sem, r0, r1, r2, r3]) rfl ?_
  have hkp := (put4_keep (Keep.refl (fun b => b = w.heap.size + 1) w6) (g := w.heap.size + 1) (.inl rfl) (.int .i64 k6) (.int .i64 m6) (.string s6) (.slice A6 l6 c6)).alloc (.cells #[.int .i64 k6, .int .i64 m6, .string s6, .slice A6 l6 c6] 28)
  have hb6 : Below w.heap.size w w6 := Keep.below HBW3.out HK6.out HBW3.out.size (fun i hi e => by omega)
  refine ⟨_, rfl, (HT6.out.keepF hkp (fun b hb => hb.2) (fun b hb e => by have := hb.1; have := HZ3.out; omega)).mono (fun b hb => ⟨by have := hb.1; have := HZ3.out; omega, Nat.lt_of_lt_of_le hb.2 hkp.size⟩), ?_⟩
  exact Keep.below hb6 hkp hb6.size (fun i hi e => by omega)
end Go.Proofs.Ytnedjmjcbmoknaa.Hp
