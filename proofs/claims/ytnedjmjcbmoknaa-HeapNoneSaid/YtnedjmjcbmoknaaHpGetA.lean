/- Get's build: where its variables lie, what it leaves. -/
import Derived.Test.YtnedjmjcbmoknaaHpParts
import Derived.Test.YtnedjmjcbmoknaaHeldZ
import Derived.Test.YtnedjmjcbmoknaaTmCopy
import Derived.WalkMore
namespace Go.Proofs.Ytnedjmjcbmoknaa.Hp
open Go.RowKit K At Wd Fl
set_option linter.unusedVariables false
set_option linter.unusedSimpArgs false

abbrev tz : Array Value := #[.int .i64 0, .int .i64 0, .string ⟨#[]⟩, .slice none 0 0]
theorem trow_keepF {F Q : Nat → Prop} {w w' : World} {B : Nat} {v : Value} {l : List Tm} (h : TRow w B Q v l) (hk : Keep F w w') (hB : ∀ b, B ≤ b → ¬ F b) (hQ : ∀ b, Q b → ¬ F b) : TRow w' B Q v l := by
  obtain ⟨G, vs, hV, hG, hR⟩ := h
  exact ⟨G, vs, hV.keep fun p hp => hk.cell (hG _ hp).1 (hQ _ (hG _ hp).2.1), fun b hb => ⟨Nat.lt_of_lt_of_le (hG b hb).1 hk.size, (hG b hb).2⟩, ownsRow_keep hR hk (fun r hr => hB r (hR.lt r hr).1)⟩
theorem u64_at {ws : List Int} {i : Nat} {u : Int} {v : Value} (hu : ws[i]? = some u) (hv : (u64s ws)[i]? = some v) : v = .int .u64 u := by
  unfold u64s at hv
  rw [List.getElem?_map, hu] at hv
  injection hv with hv
  exact hv.symm
/-- Where build's variables lie. -/
structure GE (w : World) (F : Nat → Prop) (gh g : Nat) (L : List ByteArray) (lim : Int) (H : List It) (gl gp gb : Nat) : Prop where
  hp : Hp w F gh g L lim H
  bp : Blk w gp 22 #[.pointer (some ⟨gh, 0, none⟩)]
  bb : Blk w gb 85 #[.func (.func 41) #[] #[.pointer (some ⟨gl, 0, none⟩), .pointer (some ⟨gp, 0, none⟩), .pointer (some ⟨gb, 0, none⟩)]]
  nl : ¬ F gl
  np : gp ≠ gl
  nb : gb ≠ gl
theorem GE.keep {w w' : World} {F : Nat → Prop} {gh g : Nat} {L : List ByteArray} {lim : Int} {H : List It} {gl gp gb : Nat} (h : GE w F gh g L lim H gl gp gb) (hk : Keep (fun b => b = gl) w w') : GE w' F gh g L lim H gl gp gb :=
  ⟨h.hp.keep hk (fun r hr e => h.nl (e ▸ hr)), h.bp.keep hk h.np, h.bb.keep hk h.nb, h.nl, h.np, h.nb⟩
theorem GE.below {w w' : World} {F : Nat → Prop} {gh g : Nat} {L : List ByteArray} {lim : Int} {H : List It} {gl gp gb : Nat} (h : GE w F gh g L lim H gl gp gb) (hb : Below w.heap.size w w') : GE w' F gh g L lim H gl gp gb := h.keep (Keep.new hb)
/-- What build leaves. -/
def BP (w : World) (gl : Nat) (t : Tm) (n : Int) (e : Ending) (w' : World) : Prop :=
  ∃ v, e = .returned v ∧ TAt w' (Fr w w') t v ∧ Blk w' gl 3 #[.int .i64 (n - wds t)] ∧ Keep (fun b => b = gl) w w'
theorem BP.form {w : World} {gl : Nat} {t : Tm} {n : Int} {e : Ending} {w' : World} (h : BP w gl t n e w') :
    ∃ k m s A1 l1 c1, e = .returned (.agg #[.int .i64 k, .int .i64 m, .string s, .slice A1 l1 c1]) ∧ Keep (fun b => b = gl) w w' ∧ TAt w' (Fr w w') t (.agg #[.int .i64 k, .int .i64 m, .string s, .slice A1 l1 c1]) ∧ Blk w' gl 3 #[.int .i64 (n - wds t)] := by
  obtain ⟨v, rfl, ht, hb, hk⟩ := h
  obtain ⟨A1, c1, rfl, _, _⟩ := ht.inv
  exact ⟨_, _, _, _, _, _, rfl, hk, ht, hb⟩
def BuildC (t : Tm) : Prop := ∀ (u n : Int) (w : World) (F : Nat → Prop) (gh g : Nat) (L : List ByteArray) (lim : Int) (H : List It) (gl gp gb : Nat), Rep H L t u → GE w F gh g L lim H gl gp gb → Blk w gl 3 #[.int .i64 n] → wds t ≤ n → n ≤ 65536 →
  Calls Try.prog 41 #[.int .u64 u, .pointer (some ⟨gl, 0, none⟩), .pointer (some ⟨gp, 0, none⟩), .pointer (some ⟨gb, 0, none⟩)] w (BP w gl t n)
theorem left_set {w wr : World} {gl G8 : Nat} {cs : Array Value} {n m : Int} (hg : Blk wr G8 28 cs) (hz : Blk wr w.heap.size 28 tz) (hl : Blk wr gl 3 #[.int .i64 n]) (hk : Keep (fun b => b = gl) w wr) (h8 : G8 ≠ gl) (hw : w.heap.size ≠ gl) :
    Blk (wr.setCell ⟨gl, 0, none⟩ (.int .i64 m)) G8 28 cs ∧ Blk (wr.setCell ⟨gl, 0, none⟩ (.int .i64 m)) w.heap.size 28 tz ∧ Blk (wr.setCell ⟨gl, 0, none⟩ (.int .i64 m)) gl 3 #[.int .i64 m] ∧ Keep (fun b => b = gl) w (wr.setCell ⟨gl, 0, none⟩ (.int .i64 m)) :=
  ⟨hg.far h8 _, hz.far hw _, by have := hl.set_ 0 (.int .i64 m); simpa using this, hk.setCell (p := ⟨gl, 0, none⟩) (.inl rfl) _⟩
/-- The term's own block is made behind it. -/
theorem left_new {w w2 : World} {gl : Nat} {cs : Array Value} {n m : Int} (hb : Below w.heap.size w w2) (hz : Blk w2 w.heap.size 28 tz) (hl : Blk w2 gl 3 #[.int .i64 n]) (hw : gl < w.heap.size) :
    Blk ((w2.setCell ⟨gl, 0, none⟩ (.int .i64 m)).alloc (.cells cs 28)) w2.heap.size 28 cs ∧ Blk ((w2.setCell ⟨gl, 0, none⟩ (.int .i64 m)).alloc (.cells cs 28)) w.heap.size 28 tz ∧ Blk ((w2.setCell ⟨gl, 0, none⟩ (.int .i64 m)).alloc (.cells cs 28)) gl 3 #[.int .i64 m] ∧ Keep (fun b => b = gl) w ((w2.setCell ⟨gl, 0, none⟩ (.int .i64 m)).alloc (.cells cs 28)) := by
  have e0 : (w2.setCell ⟨gl, 0, none⟩ (.int .i64 m)).heap.size = w2.heap.size := by simp [World.setCell]
  have h1 := Blk.new (w2.setCell ⟨gl, 0, none⟩ (.int .i64 m)) 28 cs
  rw [e0] at h1
  exact ⟨h1, (hz.far (by show w.heap.size ≠ gl; omega) _).alloc _, by have := (hl.set_ 0 (.int .i64 m)).alloc (.cells cs 28); simpa using this, ((Keep.new (F := fun b => b = gl) hb).setCell (p := ⟨gl, 0, none⟩) (.inl rfl) _).alloc _⟩
theorem g8_set {w wr : World} {gl G8 : Nat} {k x m : Int} {n : Int} {s : ByteArray} {v : Value} (hg : Blk wr G8 28 #[.int .i64 k, .int .i64 x, .string s, v]) (hz : Blk wr w.heap.size 28 tz) (hl : Blk wr gl 3 #[.int .i64 n]) (hk : Keep (fun b => b = gl) w wr) (h8 : G8 ≠ gl) (hw : w.heap.size < G8) :
    Blk (wr.setCell ⟨G8, 1, none⟩ (.int .i64 m)) G8 28 #[.int .i64 k, .int .i64 m, .string s, v] ∧ Blk (wr.setCell ⟨G8, 1, none⟩ (.int .i64 m)) w.heap.size 28 tz ∧ Blk (wr.setCell ⟨G8, 1, none⟩ (.int .i64 m)) gl 3 #[.int .i64 n] ∧ Keep (fun b => b = gl) w (wr.setCell ⟨G8, 1, none⟩ (.int .i64 m)) :=
  ⟨by have := hg.set_ 1 (.int .i64 m); simpa using this, hz.far (by show w.heap.size ≠ G8; omega) _, hl.far (fun e => h8 e.symm) _, hk.setCell (p := ⟨G8, 1, none⟩) (.inr (by show w.heap.size ≤ G8; omega)) _⟩
/-- In the loop: i words have been built. -/
def GI (w wr : World) (gl : Nat) (l : List Tm) (G8 : Nat) (k x n : Int) (i : Nat) : Prop :=
  ∃ row, Blk wr gl 3 #[.int .i64 (n - wdsL (l.take i))] ∧ Blk wr w.heap.size 28 tz ∧ Blk wr G8 28 #[.int .i64 k, .int .i64 x, .string ⟨#[]⟩, row] ∧ TRow wr (G8 + 1) (fun b => G8 + 1 ≤ b) row (l.take i) ∧ Keep (fun b => b = gl) w wr
section
variable {w wr w6 w3 : World} {gl G8 i : Nat} {A3 A5 A6 : Option Addr} {c3 c5 l6 c6 : Nat} {k x n k6 m6 : Int} {s6 : ByteArray} {l ts : List Tm} {t : Tm} {o : Obj}
theorem g_keeps (hgR : gl < w.heap.size) (hG8 : w.heap.size < G8) (hz : Blk wr w.heap.size 28 tz) (hg : Blk wr G8 28 #[.int .i64 k, .int .i64 x, .string ⟨#[]⟩, .slice A3 ts.length c3]) (hk : Keep (fun b => b = gl) w wr) (hk6 : Keep (fun b => b = gl) wr w6)
    (hg3 : (w6.alloc o).grownBy w3 (Value.slice A3 ts.length c3).ownBlock) (hrow : ∀ r, (Value.slice A3 ts.length c3).ownBlock = some r → G8 + 1 ≤ r ∧ r < wr.heap.size) (v : Value) :
    Blk (w3.setCell ⟨G8, 3, none⟩ v) w.heap.size 28 tz ∧ Blk (w3.setCell ⟨G8, 3, none⟩ v) G8 28 #[.int .i64 k, .int .i64 x, .string ⟨#[]⟩, v] ∧ Keep (fun b => b = gl) w (w3.setCell ⟨G8, 3, none⟩ v) ∧
      (∀ m, Blk w6 gl 3 #[.int .i64 m] → Blk (w3.setCell ⟨G8, 3, none⟩ v) gl 3 #[.int .i64 m]) := by
  have hl8 := hg.lt
  refine ⟨?_, ?_, ?_, fun m hr => ?_⟩
  · exact (((hz.keep hk6 (fun (e : w.heap.size = gl) => by omega)).alloc o).grown hg3 (fun e => by have := (hrow _ e.symm).1; omega)).far (by show w.heap.size ≠ G8; omega) _
  · have := (((hg.keep hk6 (fun (e : G8 = gl) => by omega)).alloc o).grown hg3 (fun e => by have := (hrow _ e.symm).1; omega)).set_ 3 v
    simpa using this
  · have h1 := ((hk.trans hk6 (fun _ _ h => h)).alloc o).grown hg3 (fun r hr => .inr (by have := (hrow r hr).1; omega))
    exact h1.setCell (p := ⟨G8, 3, none⟩) (.inr (by show w.heap.size ≤ G8; omega)) _
  · exact ((Blk.alloc hr o).grown hg3 (fun e => by have := (hrow _ e.symm).1; omega)).far (by show gl ≠ G8; omega) _
theorem GI.step {G : Nat → Prop} {vs : List Value} (hgR : gl < w.heap.size) (hG8 : w.heap.size < G8) (hts : ts = l.take i) (hu : l[i]? = some t)
    (hz : Blk wr w.heap.size 28 tz) (hg : Blk wr G8 28 #[.int .i64 k, .int .i64 x, .string ⟨#[]⟩, .slice A3 ts.length c3]) (hk : Keep (fun b => b = gl) w wr)
    (hV : TsVs wr G ts vs) (hG : ∀ b, G b → b < wr.heap.size ∧ G8 + 1 ≤ b ∧ (Value.slice A3 ts.length c3).ownBlock ≠ some b) (hRw : wr.ownsRow (G8 + 1) 28 4 (.slice A3 ts.length c3) ts.length (K.flat vs))
    (hk6 : Keep (fun b => b = gl) wr w6) (ht : TAt w6 (Fr wr w6) t (.agg #[.int .i64 k6, .int .i64 m6, .string s6, .slice A6 l6 c6])) (hr6 : Blk w6 gl 3 #[.int .i64 (n - wdsL (l.take i) - wds t)])
    (hg3 : (w6.alloc o).grownBy w3 (Value.slice A3 ts.length c3).ownBlock) (hR3 : w3.ownsRow (G8 + 1) 28 4 (.slice A5 (ts.length + 1) c5) (ts.length + 1) (K.flat vs ++ [.int .i64 k6, .int .i64 m6, .string s6, .slice A6 l6 c6]))
    (hat3 : (Value.slice A5 (ts.length + 1) c5).ownBlock = (Value.slice A3 ts.length c3).ownBlock ∨ (Value.slice A5 (ts.length + 1) c5).ownBlock = some (w6.alloc o).heap.size) :
    GI w (w3.setCell ⟨G8, 3, none⟩ (.slice A5 (ts.length + 1) c5)) gl l G8 k x n (i + 1) := by
  have hl8 := hg.lt
  obtain ⟨h1, h2, h3, h4⟩ := g_keeps hgR hG8 hz hg hk hk6 hg3 (fun r hr => hRw.lt r hr) (.slice A5 (ts.length + 1) c5)
  have h6 := hk6.size
  have hT := TRow.snoc (w := w6) (B := G8 + 1) (Q := fun b => G8 + 1 ≤ b) (hV.keep fun p hp => hk6.cell (hG _ hp).1 (fun (e : p.block = gl) => by have := (hG _ hp).2.1; omega)) (fun b hb => ⟨Nat.lt_of_lt_of_le (hG b hb).1 h6, (hG b hb).2⟩) ht (fun b hb => ⟨hb.2, by have := hb.1; omega, fun e => by
    have := (hRw.lt b e).2
    have := hb.1
    omega⟩) hg3 hR3 hat3
  have hks : Keep (fun y => y = G8) w3 (w3.setCell ⟨G8, 3, none⟩ (.slice A5 (ts.length + 1) c5)) := (Keep.refl (fun y => y = G8) w3).setCell (p := ⟨G8, 3, none⟩) (.inl rfl) _
  have e1 : l.take (i + 1) = ts ++ [t] := by rw [hts]; exact take_snoc_of hu
  have e2 : wdsL (l.take (i + 1)) = wdsL (l.take i) + wds t := wdsL_take_succ hu
  refine ⟨_, ?_, h1, h2, ?_, h3⟩
  · rw [e2, show n - (wdsL (l.take i) + wds t) = n - wdsL (l.take i) - wds t by omega]; exact h4 _ hr6
  · rw [e1]; exact trow_keepF hT hks (fun b h e => by omega) (fun b h e => by omega)
theorem GI.done {l : List Tm} {n0 : Int} (hgR : gl < w.heap.size) (hG8 : w.heap.size < G8) (hk1 : (Lit.int .i64 k).wf = true) (hn1 : (Lit.int .i64 x).wf = true) (hn0 : n0 = n + (wds (.mk k x ⟨#[]⟩ l) - wdsL l))
    (hr : Blk wr gl 3 #[.int .i64 (n - wdsL l)]) (hrow : TRow wr (G8 + 1) (fun b => G8 + 1 ≤ b) (.slice A3 l.length c3) l) (hk : Keep (fun b => b = gl) w wr) :
    BP w gl (.mk k x ⟨#[]⟩ l) n0 (.returned (.agg #[.int .i64 k, .int .i64 x, .string ⟨#[]⟩, .slice A3 l.length c3])) (put4 wr w.heap.size (.int .i64 k) (.int .i64 x) (.string ⟨#[]⟩) (.slice A3 l.length c3)) := by
  have hkp := put4_keep (Keep.refl (fun x => x = w.heap.size) wr) (g := w.heap.size) (.inl rfl) (.int .i64 k) (.int .i64 x) (.string ⟨#[]⟩) (.slice A3 l.length c3)
  have hr1 := trow_keepF hrow hkp (fun b h e => by omega) (fun b h e => by omega)
  obtain ⟨A', c', e, h1, h2, h3, hts⟩ := hr1.slAt (F := Fr w (put4 wr w.heap.size (.int .i64 k) (.int .i64 x) (.string ⟨#[]⟩) (.slice A3 l.length c3))) (fun b h1 h2 => ⟨by omega, h1⟩) (fun b h1 h2 => ⟨by omega, h1⟩)
  injection e with e1 e2 e3
  subst e1 e3
  have hne : gl ≠ w.heap.size := by omega
  refine ⟨_, rfl, TAt.of (t := .mk k x ⟨#[]⟩ l) ⟨hk1, hn1, by show (0 : Nat) ≤ _; exact Nat.zero_le _, h1, h2, h3⟩ hts, ?_, put4_keep hk (.inr (Nat.le_refl _)) _ _ _ _⟩
  rw [hn0, show n + (wds (.mk k x ⟨#[]⟩ l) - wdsL l) - wds (.mk k x ⟨#[]⟩ l) = n - wdsL l by omega]
  exact put4_far hr hne _ _ _ _
end
end Go.Proofs.Ytnedjmjcbmoknaa.Hp
