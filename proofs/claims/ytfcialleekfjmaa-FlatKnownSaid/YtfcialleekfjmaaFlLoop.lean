/- flat.reader's term: what its loop keeps. -/
import Derived.Test.YtfcialleekfjmaaFlTerm3
import Derived.Test.YtfcialleekfjmaaHeldZ
import Derived.Test.YtfcialleekfjmaaSteps
namespace Go.Proofs.Ytfcialleekfjmaa.Fl
open Go.RowKit K At Wd
set_option linter.unusedVariables false
set_option linter.unusedSimpArgs false

theorem trow_keepF {F Q : Nat → Prop} {w w' : World} {B : Nat} {v : Value} {l : List Tm} (h : TRow w B Q v l) (hk : Keep F w w') (hB : ∀ b, B ≤ b → ¬ F b) (hQ : ∀ b, Q b → ¬ F b) : TRow w' B Q v l := by
  obtain ⟨G, vs, hV, hG, hR⟩ := h
  exact ⟨G, vs, hV.keep fun p hp => hk.cell (hG _ hp).1 (hQ _ (hG _ hp).2.1), fun b hb => ⟨Nat.lt_of_lt_of_le (hG b hb).1 hk.size, (hG b hb).2⟩, ownsRow_keep hR hk (fun r hr => hB r (hR.lt r hr).1)⟩
abbrev tz : Array Value := #[.int .i64 0, .int .i64 0, .string ⟨#[]⟩, .slice none 0 0]
/-- Each answer of a reading has a term's form; whether it went well is told apart. -/
theorem RdPost.form {w : World} {gR : Nat} {p : Value} {A : Option Addr} {l : List Int} {c : Nat} {r : Option (Tm × Nat)} {e : Ending} {w' : World} (h : RdPost w gR p A l c r e w') :
    ∃ k n s A1 m c1, e = .returned (.agg #[.int .i64 k, .int .i64 n, .string s, .slice A1 m c1]) ∧ Keep (fun b => b = gR) w w' ∧
      ((∃ t q, r = some (t, q) ∧ TAt w' (Fr w w') t (.agg #[.int .i64 k, .int .i64 n, .string s, .slice A1 m c1]) ∧ Rdr w' gR p A l.length c (q : Int) false) ∨ (r = none ∧ ∃ q' : Int, Rdr w' gR p A l.length c q' true)) := by
  obtain ⟨hk, h⟩ := h
  cases r with
  | some x =>
    obtain ⟨v, rfl, ht, hr⟩ := h
    obtain ⟨A1, c1, rfl, _, _⟩ := ht.inv
    exact ⟨_, _, _, _, _, _, rfl, hk, .inl ⟨x.1, x.2, rfl, ht, hr⟩⟩
  | none =>
    obtain ⟨⟨k, n, s, A1, m, c1, rfl⟩, hq⟩ := h
    exact ⟨k, n, s, A1, m, c1, rfl, hk, .inr ⟨rfl, hq⟩⟩
/-- In the loop: i words have been read. -/
def RdI (w wr : World) (gR : Nat) (p : Value) (A : Option Addr) (l : List Int) (c : Nat) (rd : Int → Nat → Option (Tm × Nat)) (ws : List Int) (q0 G8 : Nat) (k n : Int) (i : Nat) : Prop :=
  ∃ row ts qi, rdL rd (ws.take i) q0 = some (ts, qi) ∧ q0 ≤ qi ∧ qi ≤ l.length ∧ Rdr wr gR p A l.length c (qi : Int) false ∧ Blk wr w.heap.size 24 tz ∧ Blk wr G8 24 #[.int .i64 k, .int .i64 n, .string ⟨#[]⟩, row] ∧ TRow wr (G8 + 1) (fun b => G8 + 1 ≤ b) row ts ∧ Keep (fun b => b = gR) w wr
section
variable {w wr w6 w3 : World} {gR G8 c q0 qi qj i : Nat} {p : Value} {A A3 A5 A6 : Option Addr} {c3 c5 l6 c6 : Nat} {l ws : List Int} {k n k6 m6 : Int} {s6 : ByteArray} {ts : List Tm} {t : Tm} {u : Int} {rd : Int → Nat → Option (Tm × Nat)} {o : Obj}
/-- What the round's end keeps. -/
theorem round_keeps (hgR : gR < w.heap.size) (hG8 : w.heap.size < G8) (hz : Blk wr w.heap.size 24 tz) (hg : Blk wr G8 24 #[.int .i64 k, .int .i64 n, .string ⟨#[]⟩, .slice A3 ts.length c3]) (hk : Keep (fun b => b = gR) w wr) (hk6 : Keep (fun b => b = gR) wr w6)
    (hg3 : (w6.alloc o).grownBy w3 (Value.slice A3 ts.length c3).ownBlock) (hrow : ∀ r, (Value.slice A3 ts.length c3).ownBlock = some r → G8 + 1 ≤ r ∧ r < wr.heap.size) (v : Value) :
    Blk (w3.setCell ⟨G8, 3, none⟩ v) w.heap.size 24 tz ∧ Blk (w3.setCell ⟨G8, 3, none⟩ v) G8 24 #[.int .i64 k, .int .i64 n, .string ⟨#[]⟩, v] ∧ Keep (fun b => b = gR) w (w3.setCell ⟨G8, 3, none⟩ v) ∧
      (∀ q b, Rdr w6 gR p A l.length c q b → Rdr (w3.setCell ⟨G8, 3, none⟩ v) gR p A l.length c q b) := by
  have hl8 := hg.lt
  refine ⟨?_, ?_, ?_, fun q b hr => ?_⟩
  · exact (((hz.keep hk6 (fun (e : w.heap.size = gR) => by omega)).alloc o).grown hg3 (fun e => by have := (hrow _ e.symm).1; omega)).far (by show w.heap.size ≠ G8; omega) _
  · have := (((hg.keep hk6 (fun (e : G8 = gR) => by omega)).alloc o).grown hg3 (fun e => by have := (hrow _ e.symm).1; omega)).set_ 3 v
    simpa using this
  · have h1 := ((hk.trans hk6 (fun _ _ h => h)).alloc o).grown hg3 (fun r hr => .inr (by have := (hrow r hr).1; omega))
    exact h1.setCell (p := ⟨G8, 3, none⟩) (.inr (by show w.heap.size ≤ G8; omega)) _
  · exact ((Blk.alloc hr o).grown hg3 (fun e => by have := (hrow _ e.symm).1; omega)).far (by show gR ≠ G8; omega) _
/-- One more word has been read. -/
theorem RdI.step {G : Nat → Prop} {vs : List Value} (hgR : gR < w.heap.size) (hG8 : w.heap.size < G8)
    (hfl : rdL rd (ws.take i) q0 = some (ts, qi)) (hq0 : q0 ≤ qi) (hu : ws[i]? = some u) (ho : rd u qi = some (t, qj)) (hij : qi ≤ qj) (hj : qj ≤ l.length)
    (hz : Blk wr w.heap.size 24 tz) (hg : Blk wr G8 24 #[.int .i64 k, .int .i64 n, .string ⟨#[]⟩, .slice A3 ts.length c3]) (hk : Keep (fun b => b = gR) w wr)
    (hV : TsVs wr G ts vs) (hG : ∀ b, G b → b < wr.heap.size ∧ G8 + 1 ≤ b ∧ (Value.slice A3 ts.length c3).ownBlock ≠ some b) (hRw : wr.ownsRow (G8 + 1) 24 4 (.slice A3 ts.length c3) ts.length (K.flat vs))
    (hk6 : Keep (fun b => b = gR) wr w6) (ht : TAt w6 (Fr wr w6) t (.agg #[.int .i64 k6, .int .i64 m6, .string s6, .slice A6 l6 c6])) (hr6 : Rdr w6 gR p A l.length c (qj : Int) false)
    (hg3 : (w6.alloc o).grownBy w3 (Value.slice A3 ts.length c3).ownBlock) (hR3 : w3.ownsRow (G8 + 1) 24 4 (.slice A5 (ts.length + 1) c5) (ts.length + 1) (K.flat vs ++ [.int .i64 k6, .int .i64 m6, .string s6, .slice A6 l6 c6]))
    (hat3 : (Value.slice A5 (ts.length + 1) c5).ownBlock = (Value.slice A3 ts.length c3).ownBlock ∨ (Value.slice A5 (ts.length + 1) c5).ownBlock = some (w6.alloc o).heap.size) :
    RdI w (w3.setCell ⟨G8, 3, none⟩ (.slice A5 (ts.length + 1) c5)) gR p A l c rd ws q0 G8 k n (i + 1) := by
  have hl8 := hg.lt
  obtain ⟨h1, h2, h3, h4⟩ := round_keeps (p := p) (A := A) (l := l) (c := c) hgR hG8 hz hg hk hk6 hg3 (fun r hr => hRw.lt r hr) (.slice A5 (ts.length + 1) c5)
  have h6 := hk6.size
  have hT := TRow.snoc (w := w6) (B := G8 + 1) (Q := fun b => G8 + 1 ≤ b) (hV.keep fun p hp => hk6.cell (hG _ hp).1 (fun (e : p.block = gR) => by have := (hG _ hp).2.1; omega)) (fun b hb => ⟨Nat.lt_of_lt_of_le (hG b hb).1 h6, (hG b hb).2⟩) ht (fun b hb => ⟨hb.2, by have := hb.1; omega, fun e => by
    have := (hRw.lt b e).2
    have := hb.1
    omega⟩) hg3 hR3 hat3
  have hks : Keep (fun x => x = G8) w3 (w3.setCell ⟨G8, 3, none⟩ (.slice A5 (ts.length + 1) c5)) := (Keep.refl (fun x => x = G8) w3).setCell (p := ⟨G8, 3, none⟩) (.inl rfl) _
  exact ⟨_, ts ++ [t], qj, by rw [rdL_snoc rd q0 hu, hfl]; simp only [ho], by omega, hj, h4 _ _ hr6, h1, h2, trow_keepF hT hks (fun b h e => by omega) (fun b h e => by omega), h3⟩
/-- All words have been read. -/
theorem RdI.done (hgR : gR < w.heap.size) (hG8 : w.heap.size < G8) (hk1 : (Lit.int .i64 k).wf = true) (hn1 : (Lit.int .i64 n).wf = true)
    (hr : Rdr wr gR p A l.length c (qi : Int) false) (hrow : TRow wr (G8 + 1) (fun b => G8 + 1 ≤ b) (.slice A3 ts.length c3) ts) (hk : Keep (fun b => b = gR) w wr) :
    RdPost w gR p A l c (some (.mk k n ⟨#[]⟩ ts, qi)) (.returned (.agg #[.int .i64 k, .int .i64 n, .string ⟨#[]⟩, .slice A3 ts.length c3])) (put4 wr w.heap.size (.int .i64 k) (.int .i64 n) (.string ⟨#[]⟩) (.slice A3 ts.length c3)) := by
  have hkp := put4_keep (Keep.refl (fun x => x = w.heap.size) wr) (g := w.heap.size) (.inl rfl) (.int .i64 k) (.int .i64 n) (.string ⟨#[]⟩) (.slice A3 ts.length c3)
  have hr1 := trow_keepF hrow hkp (fun b h e => by omega) (fun b h e => by omega)
  obtain ⟨A', c', e, h1, h2, h3, hts⟩ := hr1.slAt (F := Fr w (put4 wr w.heap.size (.int .i64 k) (.int .i64 n) (.string ⟨#[]⟩) (.slice A3 ts.length c3))) (fun b h1 h2 => ⟨by omega, h1⟩) (fun b h1 h2 => ⟨by omega, h1⟩)
  injection e with e1 e2 e3
  subst e1 e3
  have hne : gR ≠ w.heap.size := by omega
  exact ⟨put4_keep hk (.inr (Nat.le_refl _)) _ _ _ _, _, rfl, TAt.of (t := .mk k n ⟨#[]⟩ ts) ⟨hk1, hn1, by show (0 : Nat) ≤ _; exact Nat.zero_le _, h1, h2, h3⟩ hts, (((Blk.far hr hne _).far hne _).far hne _).far hne _⟩
end
end Go.Proofs.Ytfcialleekfjmaa.Fl
